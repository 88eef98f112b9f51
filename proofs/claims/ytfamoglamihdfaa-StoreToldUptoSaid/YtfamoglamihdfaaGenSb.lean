/-
  Printed by dec2.py: of each function its plain demand, and that the demand gives the contract.
-/
import Derived.Test.YtfamoglamihdfaaGenSa
set_option linter.unusedVariables false
set_option linter.unusedSimpArgs false
set_option maxRecDepth 100000
namespace Dec
open Go Go.RowKit Go.Proofs

-- slices.Equal[[]byte,byte]
def VC50_k1 (K : Bool → Prop) : Prop :=
  K true

def VC50_l1 (s1v : (List Int)) (s2v : (List Int)) (K : Bool → Prop) (v13 : Int) (X1 : Int → Prop) : Prop :=
  (((decide (v13 < (s1v.length : Int))) = true → (inIdx v13 s1v.length ∧ inIdx v13 s2v.length ∧ (((!decide ((s1v.getD (v13).toNat (0 : Int)) = (s2v.getD (v13).toNat (0 : Int)))) = true → K false) ∧ ((!decide ((s1v.getD (v13).toNat (0 : Int)) = (s2v.getD (v13).toNat (0 : Int)))) = false → (InR (v13 + (1 : Int)) ∧ X1 (v13 + (1 : Int))))))) ∧ ((decide (v13 < (s1v.length : Int))) = false → VC50_k1 K))

def VC50 (s1v : (List Int)) (s2v : (List Int)) (K : Bool → Prop) : Prop :=
  (((!decide ((s1v.length : Int) = (s2v.length : Int))) = true → K false) ∧ ((!decide ((s1v.length : Int) = (s2v.length : Int))) = false → Loop (σ := Int) (fun s X => VC50_l1 s1v s2v K s X) (0 : Int)))

set_option maxHeartbeats 4000000 in
theorem link50 (s1v : (List Int)) (s2v : (List Int)) (K : Bool → Prop) (h : VC50 s1v s2v K) : ACalls Try.prog 50 [toV1 (.sl (.int .u8)) s1v, toV1 (.sl (.int .u8)) s2v] (fun res => ∃ y, res = (fun y => [toV1 .bool y]) y ∧ K y) := by
  refine acalls_of_aw [.bool] [.t 4] Try.func50 rfl rfl rfl ?_
  unfold VC50 at h
  refine aw_seq ?_
  refine aw_region ?_
  refine awl_runp 1 [0, 1] [] (ob := (True ∧ True)) (st' := (⟨26, [(0, [], .v (.c (.p (.sl (.int .u8)) s1v))), (1, [], .v (.c (.p (.sl (.int .u8)) s2v)))], []⟩ : St)) (by kernel_rfl) ⟨trivial, trivial⟩ ?_
  refine awl_nil ?_
  refine thenQ_n ?_
  refine aw_seq ?_
  refine aw_seq ?_
  refine aw_region ?_
  refine awl_runp 5 [0, 1, 10] [] (ob := (True ∧ True ∧ True ∧ True ∧ True ∧ True)) (st' := (⟨26, [(0, [], .v (.c (.p (.sl (.int .u8)) s1v))), (1, [], .v (.c (.p (.sl (.int .u8)) s2v))), (10, [], .v (.c (.p .bool (!decide ((s1v.length : Int) = (s2v.length : Int))))))], []⟩ : St)) (by kernel_rfl) ⟨trivial, trivial, trivial, trivial, trivial, trivial⟩ ?_
  refine awl_nil ?_
  refine thenQ_n ?_
  refine aw_cond (b := (!decide ((s1v.length : Int) = (s2v.length : Int)))) (by kernel_rfl) (fun hb => ?_) (fun hb => ?_)
  · have h := h.1 hb
    refine aw_seq ?_
    refine aw_region ?_
    refine awl_runp 1 [4] [] (ob := (True ∧ True)) (st' := (⟨26, [(4, [], .v (.c (.p .bool false)))], []⟩ : St)) (by kernel_rfl) ⟨trivial, trivial⟩ ?_
    refine awl_nil ?_
    refine thenQ_n ?_
    refine aw_ret ?_
    refine thenQ_r ?_
    exact retQ_r (σ := Bool) (R := (fun y => [toV1 .bool y])) (ob := (True ∧ True)) false (by kernel_rfl) ⟨trivial, trivial⟩ h
  · have h := h.2 hb
    refine aw_skip ?_
    refine thenQ_n ?_
    refine aw_seq ?_
    refine aw_seq ?_
    refine aw_region ?_
    refine awl_runp 3 [0, 1, 12, 13] [] (ob := (True ∧ True ∧ True ∧ True)) (st' := (⟨26, [(0, [], .v (.c (.p (.sl (.int .u8)) s1v))), (1, [], .v (.c (.p (.sl (.int .u8)) s2v))), (12, [], .v (.c (.p (.int .i64) (s1v.length : Int)))), (13, [], .v (.c (.p (.int .i64) (0 : Int))))], []⟩ : St)) (by kernel_rfl) ⟨trivial, trivial, trivial, trivial⟩ ?_
    refine awl_nil ?_
    refine thenQ_n ?_
    refine withJoin (σ := Unit) (fun s => (⟨26, [], []⟩ : St)) (fun s => VC50_k1 K) (fun s h => ?_) (fun rest1 => ?_)
    · have h : VC50_k1 K := h
      unfold VC50_k1 at h
      refine thenQ_n ?_
      refine aw_seq ?_
      refine aw_region ?_
      refine awl_runp 1 [4] [] (ob := (True ∧ True)) (st' := (⟨26, [(4, [], .v (.c (.p .bool true)))], []⟩ : St)) (by kernel_rfl) ⟨trivial, trivial⟩ ?_
      refine awl_nil ?_
      refine thenQ_n ?_
      refine aw_ret ?_
      exact retQ_r (σ := Bool) (R := (fun y => [toV1 .bool y])) (ob := (True ∧ True)) true (by kernel_rfl) ⟨trivial, trivial⟩ h
    · refine aw_block ?_
      refine aw_loop (σ := Int) (fun s => (⟨26, [(0, [], .v (.c (.p (.sl (.int .u8)) s1v))), (1, [], .v (.c (.p (.sl (.int .u8)) s2v))), (12, [], .v (.c (.p (.int .i64) (s1v.length : Int)))), (13, [], .v (.c (.p (.int .i64) s)))], []⟩ : St)) (fun s X => VC50_l1 s1v s2v K s X) (s0 := (0 : Int)) (fun v13 X1 h => ?_) h
      have h : VC50_l1 s1v s2v K v13 X1 := h
      unfold VC50_l1 at h
      refine aw_seq ?_
      refine aw_region ?_
      refine awl_runp 1 [0, 1, 12, 13, 14] [] (ob := (True ∧ True)) (st' := (⟨26, [(0, [], .v (.c (.p (.sl (.int .u8)) s1v))), (1, [], .v (.c (.p (.sl (.int .u8)) s2v))), (12, [], .v (.c (.p (.int .i64) (s1v.length : Int)))), (13, [], .v (.c (.p (.int .i64) v13))), (14, [], .v (.c (.p .bool (decide (v13 < (s1v.length : Int))))))], []⟩ : St)) (by kernel_rfl) ⟨trivial, trivial⟩ ?_
      refine awl_nil ?_
      refine thenQ_n ?_
      refine aw_seq ?_
      refine aw_cond (b := (decide (v13 < (s1v.length : Int)))) (by kernel_rfl) (fun hb => ?_) (fun hb => ?_)
      · have h := h.1 hb
        refine aw_skip ?_
        refine thenQ_n ?_
        refine aw_seq ?_
        refine aw_block ?_
        refine aw_seq ?_
        refine aw_region ?_
        refine awl_runp 2 [0, 1, 5, 12, 13] [] (ob := (True ∧ True ∧ True)) (st' := (⟨26, [(0, [], .v (.c (.p (.sl (.int .u8)) s1v))), (1, [], .v (.c (.p (.sl (.int .u8)) s2v))), (5, [], .v (.c (.p (.int .i64) v13))), (12, [], .v (.c (.p (.int .i64) (s1v.length : Int)))), (13, [], .v (.c (.p (.int .i64) v13)))], []⟩ : St)) (by kernel_rfl) ⟨trivial, trivial, trivial⟩ ?_
        refine awl_nil ?_
        refine thenQ_n ?_
        refine aw_seq ?_
        refine awd_begin [] (by kernel_rfl) ?_
        obtain ⟨o1, o2, h⟩ := h
        refine awd_runp (by kernel_rfl) [0, 1, 2, 3, 4, 5, 6, 7, 8] [0, 1, 12, 13, 24] [] (ob := (True ∧ True ∧ inIdx v13 s1v.length ∧ True ∧ True ∧ True ∧ inIdx v13 s2v.length ∧ True ∧ True ∧ True)) (done' := [8, 7, 6, 5, 4, 3, 2, 1, 0]) (st' := (⟨26, [(0, [], .v (.c (.p (.sl (.int .u8)) s1v))), (1, [], .v (.c (.p (.sl (.int .u8)) s2v))), (12, [], .v (.c (.p (.int .i64) (s1v.length : Int)))), (13, [], .v (.c (.p (.int .i64) v13))), (24, [], .v (.c (.p .bool (!decide ((s1v.getD (v13).toNat (0 : Int)) = (s2v.getD (v13).toNat (0 : Int)))))))], []⟩ : St)) (by kernel_rfl) ⟨trivial, trivial, o1, trivial, trivial, trivial, o2, trivial, trivial, trivial⟩ ?_
        refine awd_done (by kernel_rfl) ?_
        refine thenQ_n ?_
        refine aw_cond (b := (!decide ((s1v.getD (v13).toNat (0 : Int)) = (s2v.getD (v13).toNat (0 : Int))))) (by kernel_rfl) (fun hb => ?_) (fun hb => ?_)
        · have h := h.1 hb
          refine aw_seq ?_
          refine aw_region ?_
          refine awl_runp 1 [4] [] (ob := (True ∧ True)) (st' := (⟨26, [(4, [], .v (.c (.p .bool false)))], []⟩ : St)) (by kernel_rfl) ⟨trivial, trivial⟩ ?_
          refine awl_nil ?_
          refine thenQ_n ?_
          refine aw_ret ?_
          refine blockQ_r ?_
          refine thenQ_r ?_
          refine thenQ_r ?_
          refine blockQ_r ?_
          refine thenQ_r ?_
          exact retQ_r (σ := Bool) (R := (fun y => [toV1 .bool y])) (ob := (True ∧ True)) false (by kernel_rfl) ⟨trivial, trivial⟩ h
        · have h := h.2 hb
          refine aw_skip ?_
          refine blockQ_n ?_
          refine thenQ_n ?_
          refine aw_region ?_
          obtain ⟨o1, h⟩ := h
          refine awl_runp 2 [0, 1, 12, 13] [] (ob := (InR (v13 + (1 : Int)) ∧ True ∧ True)) (st' := (⟨26, [(0, [], .v (.c (.p (.sl (.int .u8)) s1v))), (1, [], .v (.c (.p (.sl (.int .u8)) s2v))), (12, [], .v (.c (.p (.int .i64) (s1v.length : Int)))), (13, [], .v (.c (.p (.int .i64) (v13 + (1 : Int)))))], []⟩ : St)) (by kernel_rfl) ⟨o1, trivial, trivial⟩ ?_
          refine awl_nil ?_
          exact thenQ_n ⟨(v13 + (1 : Int)), rfl, h⟩
      · have h := h.2 hb
        refine aw_conv [.prune [] []] (st' := (⟨26, [], []⟩ : St)) (by kernel_rfl) ?_
        refine aw_exit ?_
        refine thenQ_x ?_
        refine thenQ_x ?_
        refine blockQ_hit ?_
        exact rest1 () h

-- coppicer/store.Unpack
def VC27_k3 (K : ((List (Int × (Int × (Int × (List (List Int)))))) × Int) × Int → Prop) (v2 : Int) (l6120 : (List (Int × (Int × (Int × (List (List Int))))))) (rv5 : (List Int)) (rv6 : Bool) : Prop :=
  (((rv6 || (decide ((0 : Int) < (rv5.length : Int)))) = true → K ((([] : (List (Int × (Int × (Int × (List (List Int))))))), (0 : Int)), (3 : Int))) ∧ ((rv6 || (decide ((0 : Int) < (rv5.length : Int)))) = false → VC46 (l6120, v2) (fun (ret121v : (List Int) × Bool) => (((!ret121v.2) = true → K ((([] : (List (Int × (Int × (Int × (List (List Int))))))), (0 : Int)), (3 : Int))) ∧ ((!ret121v.2) = false → K ((l6120, v2), (0 : Int)))))))

def VC27_k8 (many : Int) (l6120 : (List (Int × (Int × (Int × (List (List Int))))))) (X1 : Int × (List (Int × (Int × (Int × (List (List Int)))))) × (List Int) × Bool → Prop) (v23 : Int) (v24 : Int) (v25 : Int) (l6163 : (List (List Int))) (rv15 : (List Int)) (rv16 : Bool) : Prop :=
  (roomN (l6120.length + [(v23, (v24, (v25, l6163)))].length) ∧ (InR (many - (1 : Int)) ∧ X1 ((many - (1 : Int)), (l6120 ++ [(v23, (v24, (v25, l6163)))]), rv15, rv16)))

def VC27_k10 (ways : Int) (l6163 : (List (List Int))) (X2 : Int × (List (List Int)) × (List Int) × Bool → Prop) (w : (List Int)) (rv19 : (List Int)) (rv20 : Bool) : Prop :=
  (roomN (l6163.length + [w].length) ∧ (InR (ways - (1 : Int)) ∧ X2 ((ways - (1 : Int)), (l6163 ++ [w]), rv19, rv20)))

def VC27_k11 (long : Int) (w : (List Int)) (X3 : Int × (List Int) × (List Int) × Bool → Prop) (v28 : Int) (rv21 : (List Int)) (rv22 : Bool) : Prop :=
  (roomN (w.length + [v28].length) ∧ (InR (long - (1 : Int)) ∧ X3 ((long - (1 : Int)), (w ++ [v28]), rv21, rv22)))

def VC27_l3 (ways : Int) (l6163 : (List (List Int))) (X2 : Int × (List (List Int)) × (List Int) × Bool → Prop) (long : Int) (w : (List Int)) (rv19 : (List Int)) (rv20 : Bool) (X3 : Int × (List Int) × (List Int) × Bool → Prop) : Prop :=
  ((((decide ((0 : Int) < long)) && (!rv20)) = true → (((decide ((rv19.length : Int) < (2 : Int))) = true → VC27_k11 long w X3 (0 : Int) rv19 true) ∧ ((decide ((rv19.length : Int) < (2 : Int))) = false → (inIdx (0 : Int) rv19.length ∧ inIdx (1 : Int) rv19.length ∧ 0 ≤ (8 : Int) ∧ InR ((rv19.getD ((0 : Int)).toNat (0 : Int)) + (bShl .i64 (rv19.getD ((1 : Int)).toNat (0 : Int)) (8 : Int))) ∧ ((0 ≤ (2 : Int) ∧ (2 : Int) ≤ (rv19.length : Int)) ∧ VC27_k11 long w X3 ((rv19.getD ((0 : Int)).toNat (0 : Int)) + (bShl .i64 (rv19.getD ((1 : Int)).toNat (0 : Int)) (8 : Int))) (rv19.drop ((2 : Int)).toNat) rv20))))) ∧ (((decide ((0 : Int) < long)) && (!rv20)) = false → VC27_k10 ways l6163 X2 w rv19 rv20))

def VC27_k9 (ways : Int) (l6163 : (List (List Int))) (X2 : Int × (List (List Int)) × (List Int) × Bool → Prop) (v27 : Int) (rv17 : (List Int)) (rv18 : Bool) : Prop :=
  Loop (σ := Int × (List Int) × (List Int) × Bool) (fun s X => VC27_l3 ways l6163 X2 s.1 s.2.1 s.2.2.1 s.2.2.2 X) (v27, ([] : List Int), rv17, rv18)

def VC27_l2 (many : Int) (l6120 : (List (Int × (Int × (Int × (List (List Int))))))) (X1 : Int × (List (Int × (Int × (Int × (List (List Int)))))) × (List Int) × Bool → Prop) (v23 : Int) (v24 : Int) (v25 : Int) (ways : Int) (l6163 : (List (List Int))) (rv15 : (List Int)) (rv16 : Bool) (X2 : Int × (List (List Int)) × (List Int) × Bool → Prop) : Prop :=
  ((((decide ((0 : Int) < ways)) && (!rv16)) = true → (((decide ((rv15.length : Int) < (2 : Int))) = true → VC27_k9 ways l6163 X2 (0 : Int) rv15 true) ∧ ((decide ((rv15.length : Int) < (2 : Int))) = false → (inIdx (0 : Int) rv15.length ∧ inIdx (1 : Int) rv15.length ∧ 0 ≤ (8 : Int) ∧ InR ((rv15.getD ((0 : Int)).toNat (0 : Int)) + (bShl .i64 (rv15.getD ((1 : Int)).toNat (0 : Int)) (8 : Int))) ∧ ((0 ≤ (2 : Int) ∧ (2 : Int) ≤ (rv15.length : Int)) ∧ VC27_k9 ways l6163 X2 ((rv15.getD ((0 : Int)).toNat (0 : Int)) + (bShl .i64 (rv15.getD ((1 : Int)).toNat (0 : Int)) (8 : Int))) (rv15.drop ((2 : Int)).toNat) rv16))))) ∧ (((decide ((0 : Int) < ways)) && (!rv16)) = false → VC27_k8 many l6120 X1 v23 v24 v25 l6163 rv15 rv16))

def VC27_k7 (many : Int) (l6120 : (List (Int × (Int × (Int × (List (List Int))))))) (X1 : Int × (List (Int × (Int × (Int × (List (List Int)))))) × (List Int) × Bool → Prop) (v23 : Int) (v24 : Int) (v25 : Int) (v26 : Int) (rv13 : (List Int)) (rv14 : Bool) : Prop :=
  Loop (σ := Int × (List (List Int)) × (List Int) × Bool) (fun s X => VC27_l2 many l6120 X1 v23 v24 v25 s.1 s.2.1 s.2.2.1 s.2.2.2 X) (v26, ([] : List (List Int)), rv13, rv14)

def VC27_k6 (many : Int) (l6120 : (List (Int × (Int × (Int × (List (List Int))))))) (X1 : Int × (List (Int × (Int × (Int × (List (List Int)))))) × (List Int) × Bool → Prop) (v23 : Int) (v24 : Int) (v25 : Int) (rv11 : (List Int)) (rv12 : Bool) : Prop :=
  (((decide ((rv11.length : Int) < (2 : Int))) = true → VC27_k7 many l6120 X1 v23 v24 v25 (0 : Int) rv11 true) ∧ ((decide ((rv11.length : Int) < (2 : Int))) = false → (inIdx (0 : Int) rv11.length ∧ inIdx (1 : Int) rv11.length ∧ 0 ≤ (8 : Int) ∧ InR ((rv11.getD ((0 : Int)).toNat (0 : Int)) + (bShl .i64 (rv11.getD ((1 : Int)).toNat (0 : Int)) (8 : Int))) ∧ ((0 ≤ (2 : Int) ∧ (2 : Int) ≤ (rv11.length : Int)) ∧ VC27_k7 many l6120 X1 v23 v24 v25 ((rv11.getD ((0 : Int)).toNat (0 : Int)) + (bShl .i64 (rv11.getD ((1 : Int)).toNat (0 : Int)) (8 : Int))) (rv11.drop ((2 : Int)).toNat) rv12))))

def VC27_k5 (many : Int) (l6120 : (List (Int × (Int × (Int × (List (List Int))))))) (X1 : Int × (List (Int × (Int × (Int × (List (List Int)))))) × (List Int) × Bool → Prop) (v23 : Int) (v24 : Int) (rv9 : (List Int)) (rv10 : Bool) : Prop :=
  (((decide ((rv9.length : Int) < (2 : Int))) = true → VC27_k6 many l6120 X1 v23 v24 (0 : Int) rv9 true) ∧ ((decide ((rv9.length : Int) < (2 : Int))) = false → (inIdx (0 : Int) rv9.length ∧ inIdx (1 : Int) rv9.length ∧ 0 ≤ (8 : Int) ∧ InR ((rv9.getD ((0 : Int)).toNat (0 : Int)) + (bShl .i64 (rv9.getD ((1 : Int)).toNat (0 : Int)) (8 : Int))) ∧ ((0 ≤ (2 : Int) ∧ (2 : Int) ≤ (rv9.length : Int)) ∧ VC27_k6 many l6120 X1 v23 v24 ((rv9.getD ((0 : Int)).toNat (0 : Int)) + (bShl .i64 (rv9.getD ((1 : Int)).toNat (0 : Int)) (8 : Int))) (rv9.drop ((2 : Int)).toNat) rv10))))

def VC27_k4 (many : Int) (l6120 : (List (Int × (Int × (Int × (List (List Int))))))) (X1 : Int × (List (Int × (Int × (Int × (List (List Int)))))) × (List Int) × Bool → Prop) (v23 : Int) (rv7 : (List Int)) (rv8 : Bool) : Prop :=
  (((decide ((rv7.length : Int) < (2 : Int))) = true → VC27_k5 many l6120 X1 v23 (0 : Int) rv7 true) ∧ ((decide ((rv7.length : Int) < (2 : Int))) = false → (inIdx (0 : Int) rv7.length ∧ inIdx (1 : Int) rv7.length ∧ 0 ≤ (8 : Int) ∧ InR ((rv7.getD ((0 : Int)).toNat (0 : Int)) + (bShl .i64 (rv7.getD ((1 : Int)).toNat (0 : Int)) (8 : Int))) ∧ ((0 ≤ (2 : Int) ∧ (2 : Int) ≤ (rv7.length : Int)) ∧ VC27_k5 many l6120 X1 v23 ((rv7.getD ((0 : Int)).toNat (0 : Int)) + (bShl .i64 (rv7.getD ((1 : Int)).toNat (0 : Int)) (8 : Int))) (rv7.drop ((2 : Int)).toNat) rv8))))

def VC27_l1 (K : ((List (Int × (Int × (Int × (List (List Int)))))) × Int) × Int → Prop) (v2 : Int) (many : Int) (l6120 : (List (Int × (Int × (Int × (List (List Int))))))) (rv5 : (List Int)) (rv6 : Bool) (X1 : Int × (List (Int × (Int × (Int × (List (List Int)))))) × (List Int) × Bool → Prop) : Prop :=
  ((((decide ((0 : Int) < many)) && (!rv6)) = true → (((decide ((rv5.length : Int) < (2 : Int))) = true → VC27_k4 many l6120 X1 (0 : Int) rv5 true) ∧ ((decide ((rv5.length : Int) < (2 : Int))) = false → (inIdx (0 : Int) rv5.length ∧ inIdx (1 : Int) rv5.length ∧ 0 ≤ (8 : Int) ∧ InR ((rv5.getD ((0 : Int)).toNat (0 : Int)) + (bShl .i64 (rv5.getD ((1 : Int)).toNat (0 : Int)) (8 : Int))) ∧ ((0 ≤ (2 : Int) ∧ (2 : Int) ≤ (rv5.length : Int)) ∧ VC27_k4 many l6120 X1 ((rv5.getD ((0 : Int)).toNat (0 : Int)) + (bShl .i64 (rv5.getD ((1 : Int)).toNat (0 : Int)) (8 : Int))) (rv5.drop ((2 : Int)).toNat) rv6))))) ∧ (((decide ((0 : Int) < many)) && (!rv6)) = false → VC27_k3 K v2 l6120 rv5 rv6))

def VC27_k2 (K : ((List (Int × (Int × (Int × (List (List Int)))))) × Int) × Int → Prop) (v2 : Int) (v22 : Int) (rv3 : (List Int)) (rv4 : Bool) : Prop :=
  Loop (σ := Int × (List (Int × (Int × (Int × (List (List Int)))))) × (List Int) × Bool) (fun s X => VC27_l1 K v2 s.1 s.2.1 s.2.2.1 s.2.2.2 X) (v22, ([] : List (Int × (Int × (Int × (List (List Int)))))), rv3, rv4)

def VC27_k1 (K : ((List (Int × (Int × (Int × (List (List Int)))))) × Int) × Int → Prop) (v2 : Int) (rv : (List Int)) (rv2 : Bool) : Prop :=
  (((decide ((rv.length : Int) < (2 : Int))) = true → VC27_k2 K v2 (0 : Int) rv true) ∧ ((decide ((rv.length : Int) < (2 : Int))) = false → (inIdx (0 : Int) rv.length ∧ inIdx (1 : Int) rv.length ∧ 0 ≤ (8 : Int) ∧ InR ((rv.getD ((0 : Int)).toNat (0 : Int)) + (bShl .i64 (rv.getD ((1 : Int)).toNat (0 : Int)) (8 : Int))) ∧ ((0 ≤ (2 : Int) ∧ (2 : Int) ≤ (rv.length : Int)) ∧ VC27_k2 K v2 ((rv.getD ((0 : Int)).toNat (0 : Int)) + (bShl .i64 (rv.getD ((1 : Int)).toNat (0 : Int)) (8 : Int))) (rv.drop ((2 : Int)).toNat) rv2))))

def VC27 (b : (List Int)) (K : ((List (Int × (Int × (Int × (List (List Int)))))) × Int) × Int → Prop) : Prop :=
  (((decide ((4000 : Int) < (b.length : Int))) = true → K ((([] : (List (Int × (Int × (Int × (List (List Int))))))), (0 : Int)), (1 : Int))) ∧ ((decide ((4000 : Int) < (b.length : Int))) = false → (InR ((b.length : Int) - (4 : Int)) ∧ (((decide (((b.length : Int) - (4 : Int)) < (0 : Int))) = false → (0 ≤ ((b.length : Int) - (4 : Int)) ∧ ((b.length : Int) - (4 : Int)) ≤ (b.length : Int))) ∧ ((decide (((b.length : Int) - (4 : Int)) < (0 : Int))) = false → (0 ≤ ((b.length : Int) - (4 : Int)) ∧ ((b.length : Int) - (4 : Int)) ≤ (b.length : Int))) ∧ gcall (α := (List Int)) (!(decide (((b.length : Int) - (4 : Int)) < (0 : Int)))) (VC14 (b.take (((b.length : Int) - (4 : Int))).toNat)) ([] : (List Int)) (fun (ret27v : (List Int)) => gcall (α := Bool) (!(decide (((b.length : Int) - (4 : Int)) < (0 : Int)))) (VC50 ret27v (b.drop (((b.length : Int) - (4 : Int))).toNat)) false (fun (ret31v : Bool) => ((((decide (((b.length : Int) - (4 : Int)) < (0 : Int))) || (!ret31v)) = true → K ((([] : (List (Int × (Int × (Int × (List (List Int))))))), (0 : Int)), (7 : Int))) ∧ (((decide (((b.length : Int) - (4 : Int)) < (0 : Int))) || (!ret31v)) = false → ((0 ≤ ((b.length : Int) - (4 : Int)) ∧ ((b.length : Int) - (4 : Int)) ≤ (b.length : Int)) ∧ (((decide (((b.take (((b.length : Int) - (4 : Int))).toNat).length : Int) < (2 : Int))) = true → VC27_k1 K (0 : Int) (b.take (((b.length : Int) - (4 : Int))).toNat) true) ∧ ((decide (((b.take (((b.length : Int) - (4 : Int))).toNat).length : Int) < (2 : Int))) = false → (inIdx (0 : Int) (b.take (((b.length : Int) - (4 : Int))).toNat).length ∧ inIdx (1 : Int) (b.take (((b.length : Int) - (4 : Int))).toNat).length ∧ 0 ≤ (8 : Int) ∧ InR (((b.take (((b.length : Int) - (4 : Int))).toNat).getD ((0 : Int)).toNat (0 : Int)) + (bShl .i64 ((b.take (((b.length : Int) - (4 : Int))).toNat).getD ((1 : Int)).toNat (0 : Int)) (8 : Int))) ∧ ((0 ≤ (2 : Int) ∧ (2 : Int) ≤ ((b.take (((b.length : Int) - (4 : Int))).toNat).length : Int)) ∧ VC27_k1 K (((b.take (((b.length : Int) - (4 : Int))).toNat).getD ((0 : Int)).toNat (0 : Int)) + (bShl .i64 ((b.take (((b.length : Int) - (4 : Int))).toNat).getD ((1 : Int)).toNat (0 : Int)) (8 : Int))) ((b.take (((b.length : Int) - (4 : Int))).toNat).drop ((2 : Int)).toNat) false)))))))))))))

set_option maxHeartbeats 4000000 in
theorem link27 (b : (List Int)) (K : ((List (Int × (Int × (Int × (List (List Int)))))) × Int) × Int → Prop) (h : VC27 b K) : ACalls Try.prog 27 [toV1 (.sl (.int .u8)) b] (fun res => ∃ y, res = (fun y => [toV1 (.pr (.sl (.pr (.int .i64) (.pr (.int .i64) (.pr (.int .i64) (.sl (.sl (.int .i64))))))) (.int .i64)) y.1, toV1 (.int .i64) y.2]) y ∧ K y) := by
  refine acalls_of_aw [(.pr (.sl (.pr (.int .i64) (.pr (.int .i64) (.pr (.int .i64) (.sl (.sl (.int .i64))))))) (.int .i64)), (.int .i64)] [.c 2 50, .t 3] Try.func27 rfl rfl rfl ?_
  unfold VC27 at h
  refine aw_seq ?_
  refine aw_region ?_
  refine awl_runp 2 [0, 2] [2] (ob := (True ∧ True ∧ True)) (st' := (⟨128, [(0, [], .v (.c (.p (.sl (.int .u8)) b))), (2, [], .v (.c (.ptr 2 0)))], [(2, [], .box [.nils, .p (.int .i64) (0 : Int)])]⟩ : St)) (by kernel_rfl) ⟨trivial, trivial, trivial⟩ ?_
  refine awl_nil ?_
  refine thenQ_n ?_
  refine aw_seq ?_
  refine aw_seq ?_
  refine aw_region ?_
  refine awl_runp 3 [0, 2, 16] [2] (ob := (True ∧ True ∧ True ∧ True)) (st' := (⟨128, [(0, [], .v (.c (.p (.sl (.int .u8)) b))), (2, [], .v (.c (.ptr 2 0))), (16, [], .v (.c (.p .bool (decide ((4000 : Int) < (b.length : Int))))))], [(2, [], .box [.nils, .p (.int .i64) (0 : Int)])]⟩ : St)) (by kernel_rfl) ⟨trivial, trivial, trivial, trivial⟩ ?_
  refine awl_nil ?_
  refine thenQ_n ?_
  refine aw_cond (b := (decide ((4000 : Int) < (b.length : Int)))) (by kernel_rfl) (fun hb => ?_) (fun hb => ?_)
  · have h := h.1 hb
    refine aw_seq ?_
    refine aw_region ?_
    refine awl_runp 3 [2, 3] [2] (ob := (True ∧ True ∧ True ∧ True)) (st' := (⟨128, [(2, [], .v (.c (.ptr 2 0))), (3, [], .v (.c (.p (.int .i64) (1 : Int))))], [(2, [], .box [.nils, .p (.int .i64) (0 : Int)])]⟩ : St)) (by kernel_rfl) ⟨trivial, trivial, trivial, trivial⟩ ?_
    refine awl_nil ?_
    refine thenQ_n ?_
    refine aw_ret ?_
    refine thenQ_r ?_
    exact retQ_r (σ := ((List (Int × (Int × (Int × (List (List Int)))))) × Int) × Int) (R := (fun y => [toV1 (.pr (.sl (.pr (.int .i64) (.pr (.int .i64) (.pr (.int .i64) (.sl (.sl (.int .i64))))))) (.int .i64)) y.1, toV1 (.int .i64) y.2])) (ob := (True ∧ True ∧ True)) ((([] : (List (Int × (Int × (Int × (List (List Int))))))), (0 : Int)), (1 : Int)) (by kernel_rfl) ⟨trivial, trivial, trivial⟩ h
  · have h := h.2 hb
    refine aw_skip ?_
    refine thenQ_n ?_
    refine aw_seq ?_
    refine aw_region ?_
    obtain ⟨o1, h⟩ := h
    refine awl_runp 4 [0, 2, 4] [2] (ob := (True ∧ True ∧ InR ((b.length : Int) - (4 : Int)) ∧ True ∧ True)) (st' := (⟨128, [(0, [], .v (.c (.p (.sl (.int .u8)) b))), (2, [], .v (.c (.ptr 2 0))), (4, [], .v (.c (.p (.int .i64) ((b.length : Int) - (4 : Int)))))], [(2, [], .box [.nils, .p (.int .i64) (0 : Int)])]⟩ : St)) (by kernel_rfl) ⟨trivial, trivial, o1, trivial, trivial⟩ ?_
    refine awl_nil ?_
    refine thenQ_n ?_
    refine aw_seq ?_
    refine aw_seq ?_
    refine awd_begin [] (by kernel_rfl) ?_
    obtain ⟨o1, o2, h⟩ := h
    refine awd_runp (by kernel_rfl) [0, 1, 2, 3, 4, 5, 7, 8, 9] [0, 2, 4, 23, 26, 30] [2] (ob := (True ∧ True ∧ True ∧ ((decide (((b.length : Int) - (4 : Int)) < (0 : Int))) = false → True) ∧ ((decide (((b.length : Int) - (4 : Int)) < (0 : Int))) = false → True) ∧ ((decide (((b.length : Int) - (4 : Int)) < (0 : Int))) = false → (0 ≤ ((b.length : Int) - (4 : Int)) ∧ ((b.length : Int) - (4 : Int)) ≤ (b.length : Int))) ∧ ((decide (((b.length : Int) - (4 : Int)) < (0 : Int))) = false → True) ∧ ((decide (((b.length : Int) - (4 : Int)) < (0 : Int))) = false → True) ∧ ((decide (((b.length : Int) - (4 : Int)) < (0 : Int))) = false → (0 ≤ ((b.length : Int) - (4 : Int)) ∧ ((b.length : Int) - (4 : Int)) ≤ (b.length : Int))) ∧ True)) (done' := [9, 8, 7, 5, 4, 3, 2, 1, 0]) (st' := (⟨128, [(0, [], .v (.c (.p (.sl (.int .u8)) b))), (2, [], .v (.c (.ptr 2 0))), (4, [], .v (.c (.p (.int .i64) ((b.length : Int) - (4 : Int))))), (23, [], .v (.c (.p .bool (decide (((b.length : Int) - (4 : Int)) < (0 : Int)))))), (26, [(23, false)], .v (.c (.p (.sl (.int .u8)) (b.take (((b.length : Int) - (4 : Int))).toNat)))), (30, [(23, false)], .v (.c (.p (.sl (.int .u8)) (b.drop (((b.length : Int) - (4 : Int))).toNat))))], [(2, [], .box [.nils, .p (.int .i64) (0 : Int)])]⟩ : St)) (by kernel_rfl) ⟨trivial, trivial, trivial, (fun _ => trivial), (fun _ => trivial), o1, (fun _ => trivial), (fun _ => trivial), o2, trivial⟩ ?_
    refine awd_one (i := 6) (by kernel_rfl) ?_
    refine adop_callk (p := [(23, false)]) (l := [toV1 (.sl (.int .u8)) (b.take (((b.length : Int) - (4 : Int))).toNat)]) (cl := []) false [.d (.sl (.int .u8))] [0, 2, 4, 23, 27, 30] [2] (fun (ret27v : (List Int)) => gcall (α := Bool) (!(decide (((b.length : Int) - (4 : Int)) < (0 : Int)))) (VC50 ret27v (b.drop (((b.length : Int) - (4 : Int))).toNat)) false (fun (ret31v : Bool) => ((((decide (((b.length : Int) - (4 : Int)) < (0 : Int))) || (!ret31v)) = true → K ((([] : (List (Int × (Int × (Int × (List (List Int))))))), (0 : Int)), (7 : Int))) ∧ (((decide (((b.length : Int) - (4 : Int)) < (0 : Int))) || (!ret31v)) = false → ((0 ≤ ((b.length : Int) - (4 : Int)) ∧ ((b.length : Int) - (4 : Int)) ≤ (b.length : Int)) ∧ (((decide (((b.take (((b.length : Int) - (4 : Int))).toNat).length : Int) < (2 : Int))) = true → VC27_k1 K (0 : Int) (b.take (((b.length : Int) - (4 : Int))).toNat) true) ∧ ((decide (((b.take (((b.length : Int) - (4 : Int))).toNat).length : Int) < (2 : Int))) = false → (inIdx (0 : Int) (b.take (((b.length : Int) - (4 : Int))).toNat).length ∧ inIdx (1 : Int) (b.take (((b.length : Int) - (4 : Int))).toNat).length ∧ 0 ≤ (8 : Int) ∧ InR (((b.take (((b.length : Int) - (4 : Int))).toNat).getD ((0 : Int)).toNat (0 : Int)) + (bShl .i64 ((b.take (((b.length : Int) - (4 : Int))).toNat).getD ((1 : Int)).toNat (0 : Int)) (8 : Int))) ∧ ((0 ≤ (2 : Int) ∧ (2 : Int) ≤ ((b.take (((b.length : Int) - (4 : Int))).toNat).length : Int)) ∧ VC27_k1 K (((b.take (((b.length : Int) - (4 : Int))).toNat).getD ((0 : Int)).toNat (0 : Int)) + (bShl .i64 ((b.take (((b.length : Int) - (4 : Int))).toNat).getD ((1 : Int)).toNat (0 : Int)) (8 : Int))) ((b.take (((b.length : Int) - (4 : Int))).toNat).drop ((2 : Int)).toNat) false))))))))) (fun ret27v => [toV1 (.sl (.int .u8)) ret27v]) (fun ret27v => (⟨128, [(0, [], .v (.c (.p (.sl (.int .u8)) b))), (2, [], .v (.c (.ptr 2 0))), (4, [], .v (.c (.p (.int .i64) ((b.length : Int) - (4 : Int))))), (23, [], .v (.c (.p .bool (decide (((b.length : Int) - (4 : Int)) < (0 : Int)))))), (27, [(23, false)], .v (.c (.p (.sl (.int .u8)) ret27v))), (30, [(23, false)], .v (.c (.p (.sl (.int .u8)) (b.drop (((b.length : Int) - (4 : Int))).toNat))))], [(2, [], .box [.nils, .p (.int .i64) (0 : Int)])]⟩ : St)) rfl (by kernel_rfl) rfl (by kernel_rfl) rfl (by kernel_rfl) Try.call14 (by kernel_rfl) (fun ret27v => by kernel_rfl) (fun e => by cases e) (fun hg => acalls_of_O (link14 (b.take (((b.length : Int) - (4 : Int))).toNat) _ (by have := gcall_T h (show (!(decide (((b.length : Int) - (4 : Int)) < (0 : Int)))) = true from hg); exact this))) (fun hg => ⟨([] : (List Int)), by have := gcall_F h (show (!(decide (((b.length : Int) - (4 : Int)) < (0 : Int)))) = false from hg); exact this⟩) (fun ret27v h => ?_)
    have h : gcall (α := Bool) (!(decide (((b.length : Int) - (4 : Int)) < (0 : Int)))) (VC50 ret27v (b.drop (((b.length : Int) - (4 : Int))).toNat)) false (fun (ret31v : Bool) => ((((decide (((b.length : Int) - (4 : Int)) < (0 : Int))) || (!ret31v)) = true → K ((([] : (List (Int × (Int × (Int × (List (List Int))))))), (0 : Int)), (7 : Int))) ∧ (((decide (((b.length : Int) - (4 : Int)) < (0 : Int))) || (!ret31v)) = false → ((0 ≤ ((b.length : Int) - (4 : Int)) ∧ ((b.length : Int) - (4 : Int)) ≤ (b.length : Int)) ∧ (((decide (((b.take (((b.length : Int) - (4 : Int))).toNat).length : Int) < (2 : Int))) = true → VC27_k1 K (0 : Int) (b.take (((b.length : Int) - (4 : Int))).toNat) true) ∧ ((decide (((b.take (((b.length : Int) - (4 : Int))).toNat).length : Int) < (2 : Int))) = false → (inIdx (0 : Int) (b.take (((b.length : Int) - (4 : Int))).toNat).length ∧ inIdx (1 : Int) (b.take (((b.length : Int) - (4 : Int))).toNat).length ∧ 0 ≤ (8 : Int) ∧ InR (((b.take (((b.length : Int) - (4 : Int))).toNat).getD ((0 : Int)).toNat (0 : Int)) + (bShl .i64 ((b.take (((b.length : Int) - (4 : Int))).toNat).getD ((1 : Int)).toNat (0 : Int)) (8 : Int))) ∧ ((0 ≤ (2 : Int) ∧ (2 : Int) ≤ ((b.take (((b.length : Int) - (4 : Int))).toNat).length : Int)) ∧ VC27_k1 K (((b.take (((b.length : Int) - (4 : Int))).toNat).getD ((0 : Int)).toNat (0 : Int)) + (bShl .i64 ((b.take (((b.length : Int) - (4 : Int))).toNat).getD ((1 : Int)).toNat (0 : Int)) (8 : Int))) ((b.take (((b.length : Int) - (4 : Int))).toNat).drop ((2 : Int)).toNat) false)))))))) := h
    refine awd_one (i := 10) (by kernel_rfl) ?_
    refine adop_callk (p := [(23, false)]) (l := [toV1 (.sl (.int .u8)) ret27v, toV1 (.sl (.int .u8)) (b.drop (((b.length : Int) - (4 : Int))).toNat)]) (cl := []) false [.d (.sl (.int .u8)), .d (.sl (.int .u8))] [0, 2, 4, 23, 31] [2] (fun (ret31v : Bool) => ((((decide (((b.length : Int) - (4 : Int)) < (0 : Int))) || (!ret31v)) = true → K ((([] : (List (Int × (Int × (Int × (List (List Int))))))), (0 : Int)), (7 : Int))) ∧ (((decide (((b.length : Int) - (4 : Int)) < (0 : Int))) || (!ret31v)) = false → ((0 ≤ ((b.length : Int) - (4 : Int)) ∧ ((b.length : Int) - (4 : Int)) ≤ (b.length : Int)) ∧ (((decide (((b.take (((b.length : Int) - (4 : Int))).toNat).length : Int) < (2 : Int))) = true → VC27_k1 K (0 : Int) (b.take (((b.length : Int) - (4 : Int))).toNat) true) ∧ ((decide (((b.take (((b.length : Int) - (4 : Int))).toNat).length : Int) < (2 : Int))) = false → (inIdx (0 : Int) (b.take (((b.length : Int) - (4 : Int))).toNat).length ∧ inIdx (1 : Int) (b.take (((b.length : Int) - (4 : Int))).toNat).length ∧ 0 ≤ (8 : Int) ∧ InR (((b.take (((b.length : Int) - (4 : Int))).toNat).getD ((0 : Int)).toNat (0 : Int)) + (bShl .i64 ((b.take (((b.length : Int) - (4 : Int))).toNat).getD ((1 : Int)).toNat (0 : Int)) (8 : Int))) ∧ ((0 ≤ (2 : Int) ∧ (2 : Int) ≤ ((b.take (((b.length : Int) - (4 : Int))).toNat).length : Int)) ∧ VC27_k1 K (((b.take (((b.length : Int) - (4 : Int))).toNat).getD ((0 : Int)).toNat (0 : Int)) + (bShl .i64 ((b.take (((b.length : Int) - (4 : Int))).toNat).getD ((1 : Int)).toNat (0 : Int)) (8 : Int))) ((b.take (((b.length : Int) - (4 : Int))).toNat).drop ((2 : Int)).toNat) false)))))))) (fun ret31v => [toV1 .bool ret31v]) (fun ret31v => (⟨128, [(0, [], .v (.c (.p (.sl (.int .u8)) b))), (2, [], .v (.c (.ptr 2 0))), (4, [], .v (.c (.p (.int .i64) ((b.length : Int) - (4 : Int))))), (23, [], .v (.c (.p .bool (decide (((b.length : Int) - (4 : Int)) < (0 : Int)))))), (31, [(23, false)], .v (.c (.p .bool ret31v)))], [(2, [], .box [.nils, .p (.int .i64) (0 : Int)])]⟩ : St)) rfl (by kernel_rfl) rfl (by kernel_rfl) rfl (by kernel_rfl) Try.call50 (by kernel_rfl) (fun ret31v => by kernel_rfl) (fun e => by cases e) (fun hg => link50 ret27v (b.drop (((b.length : Int) - (4 : Int))).toNat) _ (by have := gcall_T h (show (!(decide (((b.length : Int) - (4 : Int)) < (0 : Int)))) = true from hg); exact this)) (fun hg => ⟨false, by have := gcall_F h (show (!(decide (((b.length : Int) - (4 : Int)) < (0 : Int)))) = false from hg); exact this⟩) (fun ret31v h => ?_)
    have h : ((((decide (((b.length : Int) - (4 : Int)) < (0 : Int))) || (!ret31v)) = true → K ((([] : (List (Int × (Int × (Int × (List (List Int))))))), (0 : Int)), (7 : Int))) ∧ (((decide (((b.length : Int) - (4 : Int)) < (0 : Int))) || (!ret31v)) = false → ((0 ≤ ((b.length : Int) - (4 : Int)) ∧ ((b.length : Int) - (4 : Int)) ≤ (b.length : Int)) ∧ (((decide (((b.take (((b.length : Int) - (4 : Int))).toNat).length : Int) < (2 : Int))) = true → VC27_k1 K (0 : Int) (b.take (((b.length : Int) - (4 : Int))).toNat) true) ∧ ((decide (((b.take (((b.length : Int) - (4 : Int))).toNat).length : Int) < (2 : Int))) = false → (inIdx (0 : Int) (b.take (((b.length : Int) - (4 : Int))).toNat).length ∧ inIdx (1 : Int) (b.take (((b.length : Int) - (4 : Int))).toNat).length ∧ 0 ≤ (8 : Int) ∧ InR (((b.take (((b.length : Int) - (4 : Int))).toNat).getD ((0 : Int)).toNat (0 : Int)) + (bShl .i64 ((b.take (((b.length : Int) - (4 : Int))).toNat).getD ((1 : Int)).toNat (0 : Int)) (8 : Int))) ∧ ((0 ≤ (2 : Int) ∧ (2 : Int) ≤ ((b.take (((b.length : Int) - (4 : Int))).toNat).length : Int)) ∧ VC27_k1 K (((b.take (((b.length : Int) - (4 : Int))).toNat).getD ((0 : Int)).toNat (0 : Int)) + (bShl .i64 ((b.take (((b.length : Int) - (4 : Int))).toNat).getD ((1 : Int)).toNat (0 : Int)) (8 : Int))) ((b.take (((b.length : Int) - (4 : Int))).toNat).drop ((2 : Int)).toNat) false))))))) := h
    refine awd_runp (by kernel_rfl) [11, 12] [0, 2, 4, 33] [2] (ob := (((decide (((b.length : Int) - (4 : Int)) < (0 : Int))) = false → True) ∧ True ∧ True)) (done' := [12, 11, 10, 6, 9, 8, 7, 5, 4, 3, 2, 1, 0]) (st' := (⟨128, [(0, [], .v (.c (.p (.sl (.int .u8)) b))), (2, [], .v (.c (.ptr 2 0))), (4, [], .v (.c (.p (.int .i64) ((b.length : Int) - (4 : Int))))), (33, [], .v (.c (.p .bool ((decide (((b.length : Int) - (4 : Int)) < (0 : Int))) || (!ret31v)))))], [(2, [], .box [.nils, .p (.int .i64) (0 : Int)])]⟩ : St)) (by kernel_rfl) ⟨(fun _ => trivial), trivial, trivial⟩ ?_
    refine awd_done (by kernel_rfl) ?_
    refine thenQ_n ?_
    refine aw_cond (b := ((decide (((b.length : Int) - (4 : Int)) < (0 : Int))) || (!ret31v))) (by kernel_rfl) (fun hb => ?_) (fun hb => ?_)
    · have h := h.1 hb
      refine aw_seq ?_
      refine aw_region ?_
      refine awl_runp 3 [2, 3] [2] (ob := (True ∧ True ∧ True ∧ True)) (st' := (⟨128, [(2, [], .v (.c (.ptr 2 0))), (3, [], .v (.c (.p (.int .i64) (7 : Int))))], [(2, [], .box [.nils, .p (.int .i64) (0 : Int)])]⟩ : St)) (by kernel_rfl) ⟨trivial, trivial, trivial, trivial⟩ ?_
      refine awl_nil ?_
      refine thenQ_n ?_
      refine aw_ret ?_
      refine thenQ_r ?_
      exact retQ_r (σ := ((List (Int × (Int × (Int × (List (List Int)))))) × Int) × Int) (R := (fun y => [toV1 (.pr (.sl (.pr (.int .i64) (.pr (.int .i64) (.pr (.int .i64) (.sl (.sl (.int .i64))))))) (.int .i64)) y.1, toV1 (.int .i64) y.2])) (ob := (True ∧ True ∧ True)) ((([] : (List (Int × (Int × (Int × (List (List Int))))))), (0 : Int)), (7 : Int)) (by kernel_rfl) ⟨trivial, trivial, trivial⟩ h
    · have h := h.2 hb
      refine aw_skip ?_
      refine thenQ_n ?_
      refine aw_seq ?_
      refine aw_region ?_
      obtain ⟨o1, h⟩ := h
      refine awl_runp 6 [2, 5] [2, 39] (ob := (True ∧ True ∧ (0 ≤ ((b.length : Int) - (4 : Int)) ∧ ((b.length : Int) - (4 : Int)) ≤ (b.length : Int)) ∧ True ∧ True ∧ True ∧ True)) (st' := (⟨128, [(2, [], .v (.c (.ptr 2 0))), (5, [], .v (.c (.ptr 39 0)))], [(2, [], .box [.nils, .p (.int .i64) (0 : Int)]), (39, [], .box [.p (.sl (.int .u8)) (b.take (((b.length : Int) - (4 : Int))).toNat), .p .bool false])]⟩ : St)) (by kernel_rfl) ⟨trivial, trivial, o1, trivial, trivial, trivial, trivial⟩ ?_
      refine awl_nil ?_
      refine thenQ_n ?_
      refine aw_seq ?_
      refine aw_region ?_
      refine awl_runp 1 [2, 5, 40] [2, 39] (ob := (True ∧ True)) (st' := (⟨128, [(2, [], .v (.c (.ptr 2 0))), (5, [], .v (.c (.ptr 39 0))), (40, [], .v (.c (.ptr 39 0)))], [(2, [], .box [.nils, .p (.int .i64) (0 : Int)]), (39, [], .box [.p (.sl (.int .u8)) (b.take (((b.length : Int) - (4 : Int))).toNat), .p .bool false])]⟩ : St)) (by kernel_rfl) ⟨trivial, trivial⟩ ?_
      refine awl_conv [.ren 2 30000, .ren 39 30001] (st' := (⟨128, [(2, [], .v (.c (.ptr 30000 0))), (5, [], .v (.c (.ptr 30001 0))), (40, [], .v (.c (.ptr 30001 0)))], [(30000, [], .box [.nils, .p (.int .i64) (0 : Int)]), (30001, [], .box [.p (.sl (.int .u8)) (b.take (((b.length : Int) - (4 : Int))).toNat), .p .bool false])]⟩ : St)) (by kernel_rfl) ?_
      refine awl_inlr [2] [30000, 30001] [.c (.ptr 30001 0)] [] rfl rfl (by kernel_rfl) rfl (by kernel_rfl) Try.call51 (by kernel_rfl) (by kernel_rfl) Try.func51 rfl rfl (by kernel_rfl) ?_
      refine aw_conv [] (st' := (⟨38, [(0, [], .v (.c (.ptr 30001 0))), (40, [], .v (.c (.ptr 30000 0))), (43, [], .v (.c (.ptr 30001 0))), (78, [], .v (.c (.ptr 30001 0)))], [(30000, [], .box [.nils, .p (.int .i64) (0 : Int)]), (30001, [], .box [.p (.sl (.int .u8)) (b.take (((b.length : Int) - (4 : Int))).toNat), .p .bool false])]⟩ : St)) (by kernel_rfl) ?_
      refine withJoinR (σ := Int × (List Int) × Bool) (fun s => (⟨38, [(2, [], .v (.c (.p (.int .i64) s.1))), (40, [], .v (.c (.ptr 30000 0))), (43, [], .v (.c (.ptr 30001 0)))], [(30000, [], .box [.nils, .p (.int .i64) (0 : Int)]), (30001, [], .box [.p (.sl (.int .u8)) s.2.1, .p .bool s.2.2])]⟩ : St)) (fun s => VC27_k1 K s.1 s.2.1 s.2.2) (fun s h => ?_) (fun rest11 => ?_)
      · obtain ⟨v2, rv, rv2⟩ := s
        have h : VC27_k1 K v2 rv rv2 := h
        unfold VC27_k1 at h
        refine inlR_n (.v (.c (.p (.int .i64) v2))) (by kernel_rfl) rfl ?_
        refine awl_conv [.prune [2, 5, 41] [30000, 30001]] (st' := (⟨128, [(2, [], .v (.c (.ptr 30000 0))), (5, [], .v (.c (.ptr 30001 0))), (41, [], .v (.c (.p (.int .i64) v2)))], [(30000, [], .box [.nils, .p (.int .i64) (0 : Int)]), (30001, [], .box [.p (.sl (.int .u8)) rv, .p .bool rv2])]⟩ : St)) (by kernel_rfl) ?_
        refine awl_runp 3 [2, 5, 6] [6, 30000, 30001] (ob := (True ∧ True ∧ True ∧ True)) (st' := (⟨128, [(2, [], .v (.c (.ptr 30000 0))), (5, [], .v (.c (.ptr 30001 0))), (6, [], .v (.c (.ptr 6 0)))], [(6, [], .box [.nils, .p (.int .i64) v2]), (30000, [], .box [.nils, .p (.int .i64) (0 : Int)]), (30001, [], .box [.p (.sl (.int .u8)) rv, .p .bool rv2])]⟩ : St)) (by kernel_rfl) ⟨trivial, trivial, trivial, trivial⟩ ?_
        refine awl_nil ?_
        refine thenQ_n ?_
        refine aw_seq ?_
        refine aw_seq ?_
        refine aw_region ?_
        refine awl_runp 1 [2, 5, 6, 43] [6, 30000, 30001] (ob := (True ∧ True)) (st' := (⟨128, [(2, [], .v (.c (.ptr 30000 0))), (5, [], .v (.c (.ptr 30001 0))), (6, [], .v (.c (.ptr 6 0))), (43, [], .v (.c (.ptr 30001 0)))], [(6, [], .box [.nils, .p (.int .i64) v2]), (30000, [], .box [.nils, .p (.int .i64) (0 : Int)]), (30001, [], .box [.p (.sl (.int .u8)) rv, .p .bool rv2])]⟩ : St)) (by kernel_rfl) ⟨trivial, trivial⟩ ?_
        refine awl_conv [.ren 6 30200] (st' := (⟨128, [(2, [], .v (.c (.ptr 30000 0))), (5, [], .v (.c (.ptr 30001 0))), (6, [], .v (.c (.ptr 30200 0))), (43, [], .v (.c (.ptr 30001 0)))], [(30200, [], .box [.nils, .p (.int .i64) v2]), (30000, [], .box [.nils, .p (.int .i64) (0 : Int)]), (30001, [], .box [.p (.sl (.int .u8)) rv, .p .bool rv2])]⟩ : St)) (by kernel_rfl) ?_
        refine awl_inlr [2] [30200, 30000, 30001] [.c (.ptr 30001 0)] [] rfl rfl (by kernel_rfl) rfl (by kernel_rfl) Try.call51 (by kernel_rfl) (by kernel_rfl) Try.func51 rfl rfl (by kernel_rfl) ?_
        refine aw_conv [] (st' := (⟨38, [(0, [], .v (.c (.ptr 30001 0))), (40, [], .v (.c (.ptr 30000 0))), (43, [], .v (.c (.ptr 30001 0))), (44, [], .v (.c (.ptr 30200 0))), (81, [], .v (.c (.ptr 30001 0)))], [(30200, [], .box [.nils, .p (.int .i64) v2]), (30000, [], .box [.nils, .p (.int .i64) (0 : Int)]), (30001, [], .box [.p (.sl (.int .u8)) rv, .p .bool rv2])]⟩ : St)) (by kernel_rfl) ?_
        refine withJoinR (σ := Int × (List Int) × Bool) (fun s => (⟨38, [(2, [], .v (.c (.p (.int .i64) s.1))), (40, [], .v (.c (.ptr 30000 0))), (43, [], .v (.c (.ptr 30001 0))), (44, [], .v (.c (.ptr 30200 0)))], [(30000, [], .box [.nils, .p (.int .i64) (0 : Int)]), (30001, [], .box [.p (.sl (.int .u8)) s.2.1, .p .bool s.2.2]), (30200, [], .box [.nils, .p (.int .i64) v2])]⟩ : St)) (fun s => VC27_k2 K v2 s.1 s.2.1 s.2.2) (fun s h => ?_) (fun rest10 => ?_)
        · obtain ⟨v22, rv3, rv4⟩ := s
          have h : VC27_k2 K v2 v22 rv3 rv4 := h
          unfold VC27_k2 at h
          refine inlR_n (.v (.c (.p (.int .i64) v22))) (by kernel_rfl) rfl ?_
          refine awl_conv [.prune [2, 5, 6, 44] [30000, 30001, 30200]] (st' := (⟨128, [(2, [], .v (.c (.ptr 30000 0))), (5, [], .v (.c (.ptr 30001 0))), (6, [], .v (.c (.ptr 30200 0))), (44, [], .v (.c (.p (.int .i64) v22)))], [(30000, [], .box [.nils, .p (.int .i64) (0 : Int)]), (30001, [], .box [.p (.sl (.int .u8)) rv3, .p .bool rv4]), (30200, [], .box [.nils, .p (.int .i64) v2])]⟩ : St)) (by kernel_rfl) ?_
          refine awl_runp 1 [2, 5, 6, 7] [30000, 30001, 30200] (ob := (True ∧ True)) (st' := (⟨128, [(2, [], .v (.c (.ptr 30000 0))), (5, [], .v (.c (.ptr 30001 0))), (6, [], .v (.c (.ptr 30200 0))), (7, [], .v (.c (.p (.int .i64) v22)))], [(30000, [], .box [.nils, .p (.int .i64) (0 : Int)]), (30001, [], .box [.p (.sl (.int .u8)) rv3, .p .bool rv4]), (30200, [], .box [.nils, .p (.int .i64) v2])]⟩ : St)) (by kernel_rfl) ⟨trivial, trivial⟩ ?_
          refine awl_nil ?_
          refine thenQ_n ?_
          refine withJoin (σ := (List (Int × (Int × (Int × (List (List Int)))))) × (List Int) × Bool) (fun s => (⟨128, [(2, [], .v (.c (.ptr 30000 0))), (5, [], .v (.c (.ptr 30001 0))), (6, [], .v (.c (.ptr 30200 0)))], [(6120, [], .arr 87 (.pr (.int .i64) (.pr (.int .i64) (.pr (.int .i64) (.sl (.sl (.int .i64)))))) s.1), (30000, [], .box [.nils, .p (.int .i64) (0 : Int)]), (30001, [], .box [.p (.sl (.int .u8)) s.2.1, .p .bool s.2.2]), (30200, [], .box [.own 6120, .p (.int .i64) v2])]⟩ : St)) (fun s => VC27_k3 K v2 s.1 s.2.1 s.2.2) (fun s h => ?_) (fun rest1 => ?_)
          · obtain ⟨l6120, rv5, rv6⟩ := s
            have h : VC27_k3 K v2 l6120 rv5 rv6 := h
            unfold VC27_k3 at h
            refine thenQ_n ?_
            refine aw_seq ?_
            refine aw_seq ?_
            refine aw_region ?_
            refine awl_runp 12 [2, 6, 117] [6120, 30000, 30200] (ob := (True ∧ True ∧ True ∧ True ∧ True ∧ (rv6 = false → True) ∧ (rv6 = false → True) ∧ (rv6 = false → True) ∧ (rv6 = false → True) ∧ (rv6 = false → True) ∧ (rv6 = false → True) ∧ True ∧ True)) (st' := (⟨128, [(2, [], .v (.c (.ptr 30000 0))), (6, [], .v (.c (.ptr 30200 0))), (117, [], .v (.c (.p .bool (rv6 || (decide ((0 : Int) < (rv5.length : Int)))))))], [(6120, [], .arr 87 (.pr (.int .i64) (.pr (.int .i64) (.pr (.int .i64) (.sl (.sl (.int .i64)))))) l6120), (30000, [], .box [.nils, .p (.int .i64) (0 : Int)]), (30200, [], .box [.own 6120, .p (.int .i64) v2])]⟩ : St)) (by kernel_rfl) ⟨trivial, trivial, trivial, trivial, trivial, (fun _ => trivial), (fun _ => trivial), (fun _ => trivial), (fun _ => trivial), (fun _ => trivial), (fun _ => trivial), trivial, trivial⟩ ?_
            refine awl_nil ?_
            refine thenQ_n ?_
            refine aw_cond (b := (rv6 || (decide ((0 : Int) < (rv5.length : Int))))) (by kernel_rfl) (fun hb => ?_) (fun hb => ?_)
            · have h := h.1 hb
              refine aw_seq ?_
              refine aw_region ?_
              refine awl_runp 3 [2, 3] [30000] (ob := (True ∧ True ∧ True ∧ True)) (st' := (⟨128, [(2, [], .v (.c (.ptr 30000 0))), (3, [], .v (.c (.p (.int .i64) (3 : Int))))], [(30000, [], .box [.nils, .p (.int .i64) (0 : Int)])]⟩ : St)) (by kernel_rfl) ⟨trivial, trivial, trivial, trivial⟩ ?_
              refine awl_nil ?_
              refine thenQ_n ?_
              refine aw_ret ?_
              refine thenQ_r ?_
              exact retQ_r (σ := ((List (Int × (Int × (Int × (List (List Int)))))) × Int) × Int) (R := (fun y => [toV1 (.pr (.sl (.pr (.int .i64) (.pr (.int .i64) (.pr (.int .i64) (.sl (.sl (.int .i64))))))) (.int .i64)) y.1, toV1 (.int .i64) y.2])) (ob := (True ∧ True ∧ True)) ((([] : (List (Int × (Int × (Int × (List (List Int))))))), (0 : Int)), (3 : Int)) (by kernel_rfl) ⟨trivial, trivial, trivial⟩ h
            · have h := h.2 hb
              refine aw_skip ?_
              refine thenQ_n ?_
              refine aw_seq ?_
              refine aw_seq ?_
              refine aw_region ?_
              refine awl_runp 1 [2, 6, 120] [6120, 30000, 30200] (ob := (True ∧ True)) (st' := (⟨128, [(2, [], .v (.c (.ptr 30000 0))), (6, [], .v (.c (.ptr 30200 0))), (120, [], .v (.agg [.own 6120, .p (.int .i64) v2]))], [(6120, [], .arr 87 (.pr (.int .i64) (.pr (.int .i64) (.pr (.int .i64) (.sl (.sl (.int .i64)))))) l6120), (30000, [], .box [.nils, .p (.int .i64) (0 : Int)]), (30200, [], .box [.own 6120, .p (.int .i64) v2])]⟩ : St)) (by kernel_rfl) ⟨trivial, trivial⟩ ?_
              refine awl_conv [.freeze 6120] (st' := (⟨128, [(2, [], .v (.c (.ptr 30000 0))), (6, [], .v (.c (.ptr 30200 0))), (120, [], .v (.agg [.p (.sl (.pr (.int .i64) (.pr (.int .i64) (.pr (.int .i64) (.sl (.sl (.int .i64))))))) l6120, .p (.int .i64) v2]))], [(30000, [], .box [.nils, .p (.int .i64) (0 : Int)]), (30200, [], .box [.p (.sl (.pr (.int .i64) (.pr (.int .i64) (.pr (.int .i64) (.sl (.sl (.int .i64))))))) l6120, .p (.int .i64) v2])]⟩ : St)) (by kernel_rfl) ?_
              refine awl_callk (p := []) (l := [toV1 (.pr (.sl (.pr (.int .i64) (.pr (.int .i64) (.pr (.int .i64) (.sl (.sl (.int .i64))))))) (.int .i64)) (l6120, v2)]) (cl := []) false [.d (.pr (.sl (.pr (.int .i64) (.pr (.int .i64) (.pr (.int .i64) (.sl (.sl (.int .i64))))))) (.int .i64))] [2, 6, 121] [30000, 30200] (fun (ret121v : (List Int) × Bool) => (((!ret121v.2) = true → K ((([] : (List (Int × (Int × (Int × (List (List Int))))))), (0 : Int)), (3 : Int))) ∧ ((!ret121v.2) = false → K ((l6120, v2), (0 : Int))))) (fun ret121v => [toV1 (.sl (.int .i64)) ret121v.1, toV1 .bool ret121v.2]) (fun ret121v => (⟨128, [(2, [], .v (.c (.ptr 30000 0))), (6, [], .v (.c (.ptr 30200 0))), (121, [], .tup [.c (.p (.sl (.int .i64)) ret121v.1), .c (.p .bool ret121v.2)])], [(30000, [], .box [.nils, .p (.int .i64) (0 : Int)]), (30200, [], .box [.p (.sl (.pr (.int .i64) (.pr (.int .i64) (.pr (.int .i64) (.sl (.sl (.int .i64))))))) l6120, .p (.int .i64) v2])]⟩ : St)) (by kernel_rfl) rfl (by kernel_rfl) rfl (by kernel_rfl) Try.call46 (by kernel_rfl) (fun ret121v => by kernel_rfl) (fun e => by cases e) (fun hg => link46 (l6120, v2) _ h) (fun hg => noF hg) (fun ret121v h => ?_)
              have h : (((!ret121v.2) = true → K ((([] : (List (Int × (Int × (Int × (List (List Int))))))), (0 : Int)), (3 : Int))) ∧ ((!ret121v.2) = false → K ((l6120, v2), (0 : Int)))) := h
              refine awl_runp 5 [2, 6, 13] [30000, 30200] (ob := (True ∧ True ∧ True ∧ True ∧ True ∧ True)) (st' := (⟨128, [(2, [], .v (.c (.ptr 30000 0))), (6, [], .v (.c (.ptr 30200 0))), (13, [], .v (.c (.p .bool ret121v.2)))], [(30000, [], .box [.nils, .p (.int .i64) (0 : Int)]), (30200, [], .box [.p (.sl (.pr (.int .i64) (.pr (.int .i64) (.pr (.int .i64) (.sl (.sl (.int .i64))))))) l6120, .p (.int .i64) v2])]⟩ : St)) (by kernel_rfl) ⟨trivial, trivial, trivial, trivial, trivial, trivial⟩ ?_
              refine awl_nil ?_
              refine thenQ_n ?_
              refine aw_seq ?_
              refine aw_region ?_
              refine awl_runp 2 [2, 6, 125] [30000, 30200] (ob := (True ∧ True ∧ True)) (st' := (⟨128, [(2, [], .v (.c (.ptr 30000 0))), (6, [], .v (.c (.ptr 30200 0))), (125, [], .v (.c (.p .bool (!ret121v.2))))], [(30000, [], .box [.nils, .p (.int .i64) (0 : Int)]), (30200, [], .box [.p (.sl (.pr (.int .i64) (.pr (.int .i64) (.pr (.int .i64) (.sl (.sl (.int .i64))))))) l6120, .p (.int .i64) v2])]⟩ : St)) (by kernel_rfl) ⟨trivial, trivial, trivial⟩ ?_
              refine awl_nil ?_
              refine thenQ_n ?_
              refine aw_cond (b := (!ret121v.2)) (by kernel_rfl) (fun hb => ?_) (fun hb => ?_)
              · have h := h.1 hb
                refine aw_seq ?_
                refine aw_region ?_
                refine awl_runp 3 [2, 3] [30000] (ob := (True ∧ True ∧ True ∧ True)) (st' := (⟨128, [(2, [], .v (.c (.ptr 30000 0))), (3, [], .v (.c (.p (.int .i64) (3 : Int))))], [(30000, [], .box [.nils, .p (.int .i64) (0 : Int)])]⟩ : St)) (by kernel_rfl) ⟨trivial, trivial, trivial, trivial⟩ ?_
                refine awl_nil ?_
                refine thenQ_n ?_
                refine aw_ret ?_
                refine thenQ_r ?_
                exact retQ_r (σ := ((List (Int × (Int × (Int × (List (List Int)))))) × Int) × Int) (R := (fun y => [toV1 (.pr (.sl (.pr (.int .i64) (.pr (.int .i64) (.pr (.int .i64) (.sl (.sl (.int .i64))))))) (.int .i64)) y.1, toV1 (.int .i64) y.2])) (ob := (True ∧ True ∧ True)) ((([] : (List (Int × (Int × (Int × (List (List Int))))))), (0 : Int)), (3 : Int)) (by kernel_rfl) ⟨trivial, trivial, trivial⟩ h
              · have h := h.2 hb
                refine aw_skip ?_
                refine thenQ_n ?_
                refine aw_seq ?_
                refine aw_region ?_
                refine awl_runp 3 [2, 3] [30000] (ob := (True ∧ True ∧ True ∧ True)) (st' := (⟨128, [(2, [], .v (.c (.ptr 30000 0))), (3, [], .v (.c (.p (.int .i64) (0 : Int))))], [(30000, [], .box [.p (.sl (.pr (.int .i64) (.pr (.int .i64) (.pr (.int .i64) (.sl (.sl (.int .i64))))))) l6120, .p (.int .i64) v2])]⟩ : St)) (by kernel_rfl) ⟨trivial, trivial, trivial, trivial⟩ ?_
                refine awl_nil ?_
                refine thenQ_n ?_
                refine aw_ret ?_
                exact retQ_r (σ := ((List (Int × (Int × (Int × (List (List Int)))))) × Int) × Int) (R := (fun y => [toV1 (.pr (.sl (.pr (.int .i64) (.pr (.int .i64) (.pr (.int .i64) (.sl (.sl (.int .i64))))))) (.int .i64)) y.1, toV1 (.int .i64) y.2])) (ob := (True ∧ True ∧ True)) ((l6120, v2), (0 : Int)) (by kernel_rfl) ⟨trivial, trivial, trivial⟩ h
          · refine aw_block ?_
            refine aw_conv [.nilOwnB 30200 0 6120 87 (.pr (.int .i64) (.pr (.int .i64) (.pr (.int .i64) (.sl (.sl (.int .i64))))))] (st' := (⟨128, [(2, [], .v (.c (.ptr 30000 0))), (5, [], .v (.c (.ptr 30001 0))), (6, [], .v (.c (.ptr 30200 0))), (7, [], .v (.c (.p (.int .i64) v22)))], [(6120, [], .arr 87 (.pr (.int .i64) (.pr (.int .i64) (.pr (.int .i64) (.sl (.sl (.int .i64)))))) ([] : List (Int × (Int × (Int × (List (List Int))))))), (30000, [], .box [.nils, .p (.int .i64) (0 : Int)]), (30001, [], .box [.p (.sl (.int .u8)) rv3, .p .bool rv4]), (30200, [], .box [.own 6120, .p (.int .i64) v2])]⟩ : St)) (by kernel_rfl) ?_
            refine aw_loop (σ := Int × (List (Int × (Int × (Int × (List (List Int)))))) × (List Int) × Bool) (fun s => (⟨128, [(2, [], .v (.c (.ptr 30000 0))), (5, [], .v (.c (.ptr 30001 0))), (6, [], .v (.c (.ptr 30200 0))), (7, [], .v (.c (.p (.int .i64) s.1)))], [(6120, [], .arr 87 (.pr (.int .i64) (.pr (.int .i64) (.pr (.int .i64) (.sl (.sl (.int .i64)))))) s.2.1), (30000, [], .box [.nils, .p (.int .i64) (0 : Int)]), (30001, [], .box [.p (.sl (.int .u8)) s.2.2.1, .p .bool s.2.2.2]), (30200, [], .box [.own 6120, .p (.int .i64) v2])]⟩ : St)) (fun s X => VC27_l1 K v2 s.1 s.2.1 s.2.2.1 s.2.2.2 X) (s0 := (v22, ([] : List (Int × (Int × (Int × (List (List Int)))))), rv3, rv4)) (fun s X1 h => ?_) h
            obtain ⟨many, l6120, rv5, rv6⟩ := s
            have h : VC27_l1 K v2 many l6120 rv5 rv6 X1 := h
            unfold VC27_l1 at h
            refine aw_seq ?_
            refine aw_seq ?_
            refine aw_region ?_
            refine awl_runp 9 [2, 5, 6, 7, 53] [6120, 30000, 30001, 30200] (ob := (True ∧ True ∧ True ∧ ((decide ((0 : Int) < many)) = true → True) ∧ ((decide ((0 : Int) < many)) = true → True) ∧ ((decide ((0 : Int) < many)) = true → True) ∧ ((decide ((0 : Int) < many)) = true → True) ∧ ((decide ((0 : Int) < many)) = true → True) ∧ True ∧ True)) (st' := (⟨128, [(2, [], .v (.c (.ptr 30000 0))), (5, [], .v (.c (.ptr 30001 0))), (6, [], .v (.c (.ptr 30200 0))), (7, [], .v (.c (.p (.int .i64) many))), (53, [], .v (.c (.p .bool ((decide ((0 : Int) < many)) && (!rv6)))))], [(6120, [], .arr 87 (.pr (.int .i64) (.pr (.int .i64) (.pr (.int .i64) (.sl (.sl (.int .i64)))))) l6120), (30000, [], .box [.nils, .p (.int .i64) (0 : Int)]), (30001, [], .box [.p (.sl (.int .u8)) rv5, .p .bool rv6]), (30200, [], .box [.own 6120, .p (.int .i64) v2])]⟩ : St)) (by kernel_rfl) ⟨trivial, trivial, trivial, (fun _ => trivial), (fun _ => trivial), (fun _ => trivial), (fun _ => trivial), (fun _ => trivial), trivial, trivial⟩ ?_
            refine awl_nil ?_
            refine thenQ_n ?_
            refine aw_cond (b := ((decide ((0 : Int) < many)) && (!rv6))) (by kernel_rfl) (fun hb => ?_) (fun hb => ?_)
            · have h := h.1 hb
              refine aw_skip ?_
              refine thenQ_n ?_
              refine aw_seq ?_
              refine aw_block ?_
              refine aw_seq ?_
              refine aw_region ?_
              refine awl_runp 1 [2, 5, 6, 7, 56] [6120, 30000, 30001, 30200] (ob := (True ∧ True)) (st' := (⟨128, [(2, [], .v (.c (.ptr 30000 0))), (5, [], .v (.c (.ptr 30001 0))), (6, [], .v (.c (.ptr 30200 0))), (7, [], .v (.c (.p (.int .i64) many))), (56, [], .v (.c (.ptr 30001 0)))], [(6120, [], .arr 87 (.pr (.int .i64) (.pr (.int .i64) (.pr (.int .i64) (.sl (.sl (.int .i64)))))) l6120), (30000, [], .box [.nils, .p (.int .i64) (0 : Int)]), (30001, [], .box [.p (.sl (.int .u8)) rv5, .p .bool rv6]), (30200, [], .box [.own 6120, .p (.int .i64) v2])]⟩ : St)) (by kernel_rfl) ⟨trivial, trivial⟩ ?_
              refine awl_conv [.ren 6120 30400] (st' := (⟨128, [(2, [], .v (.c (.ptr 30000 0))), (5, [], .v (.c (.ptr 30001 0))), (6, [], .v (.c (.ptr 30200 0))), (7, [], .v (.c (.p (.int .i64) many))), (56, [], .v (.c (.ptr 30001 0)))], [(30400, [], .arr 87 (.pr (.int .i64) (.pr (.int .i64) (.pr (.int .i64) (.sl (.sl (.int .i64)))))) l6120), (30000, [], .box [.nils, .p (.int .i64) (0 : Int)]), (30001, [], .box [.p (.sl (.int .u8)) rv5, .p .bool rv6]), (30200, [], .box [.own 30400, .p (.int .i64) v2])]⟩ : St)) (by kernel_rfl) ?_
              refine awl_inlr [2] [30400, 30000, 30001, 30200] [.c (.ptr 30001 0)] [] rfl rfl (by kernel_rfl) rfl (by kernel_rfl) Try.call51 (by kernel_rfl) (by kernel_rfl) Try.func51 rfl rfl (by kernel_rfl) ?_
              refine aw_conv [] (st' := (⟨38, [(0, [], .v (.c (.ptr 30001 0))), (40, [], .v (.c (.ptr 30000 0))), (43, [], .v (.c (.ptr 30001 0))), (44, [], .v (.c (.ptr 30200 0))), (45, [], .v (.c (.p (.int .i64) many))), (94, [], .v (.c (.ptr 30001 0)))], [(30400, [], .arr 87 (.pr (.int .i64) (.pr (.int .i64) (.pr (.int .i64) (.sl (.sl (.int .i64)))))) l6120), (30000, [], .box [.nils, .p (.int .i64) (0 : Int)]), (30001, [], .box [.p (.sl (.int .u8)) rv5, .p .bool rv6]), (30200, [], .box [.own 30400, .p (.int .i64) v2])]⟩ : St)) (by kernel_rfl) ?_
              refine withJoinR (σ := Int × (List Int) × Bool) (fun s => (⟨38, [(2, [], .v (.c (.p (.int .i64) s.1))), (40, [], .v (.c (.ptr 30000 0))), (43, [], .v (.c (.ptr 30001 0))), (44, [], .v (.c (.ptr 30200 0))), (45, [], .v (.c (.p (.int .i64) many)))], [(30000, [], .box [.nils, .p (.int .i64) (0 : Int)]), (30001, [], .box [.p (.sl (.int .u8)) s.2.1, .p .bool s.2.2]), (30200, [], .box [.own 30400, .p (.int .i64) v2]), (30400, [], .arr 87 (.pr (.int .i64) (.pr (.int .i64) (.pr (.int .i64) (.sl (.sl (.int .i64)))))) l6120)]⟩ : St)) (fun s => VC27_k4 many l6120 X1 s.1 s.2.1 s.2.2) (fun s h => ?_) (fun rest9 => ?_)
              · obtain ⟨v23, rv7, rv8⟩ := s
                have h : VC27_k4 many l6120 X1 v23 rv7 rv8 := h
                unfold VC27_k4 at h
                refine inlR_n (.v (.c (.p (.int .i64) v23))) (by kernel_rfl) rfl ?_
                refine awl_conv [.prune [2, 5, 6, 7, 57] [30000, 30001, 30200, 30400]] (st' := (⟨128, [(2, [], .v (.c (.ptr 30000 0))), (5, [], .v (.c (.ptr 30001 0))), (6, [], .v (.c (.ptr 30200 0))), (7, [], .v (.c (.p (.int .i64) many))), (57, [], .v (.c (.p (.int .i64) v23)))], [(30000, [], .box [.nils, .p (.int .i64) (0 : Int)]), (30001, [], .box [.p (.sl (.int .u8)) rv7, .p .bool rv8]), (30200, [], .box [.own 30400, .p (.int .i64) v2]), (30400, [], .arr 87 (.pr (.int .i64) (.pr (.int .i64) (.pr (.int .i64) (.sl (.sl (.int .i64)))))) l6120)]⟩ : St)) (by kernel_rfl) ?_
                refine awl_runp 1 [2, 5, 6, 7, 57, 58] [30000, 30001, 30200, 30400] (ob := (True ∧ True)) (st' := (⟨128, [(2, [], .v (.c (.ptr 30000 0))), (5, [], .v (.c (.ptr 30001 0))), (6, [], .v (.c (.ptr 30200 0))), (7, [], .v (.c (.p (.int .i64) many))), (57, [], .v (.c (.p (.int .i64) v23))), (58, [], .v (.c (.ptr 30001 0)))], [(30000, [], .box [.nils, .p (.int .i64) (0 : Int)]), (30001, [], .box [.p (.sl (.int .u8)) rv7, .p .bool rv8]), (30200, [], .box [.own 30400, .p (.int .i64) v2]), (30400, [], .arr 87 (.pr (.int .i64) (.pr (.int .i64) (.pr (.int .i64) (.sl (.sl (.int .i64)))))) l6120)]⟩ : St)) (by kernel_rfl) ⟨trivial, trivial⟩ ?_
                refine awl_inlr [2] [30000, 30001, 30200, 30400] [.c (.ptr 30001 0)] [] rfl rfl (by kernel_rfl) rfl (by kernel_rfl) Try.call51 (by kernel_rfl) (by kernel_rfl) Try.func51 rfl rfl (by kernel_rfl) ?_
                refine aw_conv [] (st' := (⟨38, [(0, [], .v (.c (.ptr 30001 0))), (40, [], .v (.c (.ptr 30000 0))), (43, [], .v (.c (.ptr 30001 0))), (44, [], .v (.c (.ptr 30200 0))), (45, [], .v (.c (.p (.int .i64) many))), (95, [], .v (.c (.p (.int .i64) v23))), (96, [], .v (.c (.ptr 30001 0)))], [(30000, [], .box [.nils, .p (.int .i64) (0 : Int)]), (30001, [], .box [.p (.sl (.int .u8)) rv7, .p .bool rv8]), (30200, [], .box [.own 30400, .p (.int .i64) v2]), (30400, [], .arr 87 (.pr (.int .i64) (.pr (.int .i64) (.pr (.int .i64) (.sl (.sl (.int .i64)))))) l6120)]⟩ : St)) (by kernel_rfl) ?_
                refine withJoinR (σ := Int × (List Int) × Bool) (fun s => (⟨38, [(2, [], .v (.c (.p (.int .i64) s.1))), (40, [], .v (.c (.ptr 30000 0))), (43, [], .v (.c (.ptr 30001 0))), (44, [], .v (.c (.ptr 30200 0))), (45, [], .v (.c (.p (.int .i64) many))), (95, [], .v (.c (.p (.int .i64) v23)))], [(30000, [], .box [.nils, .p (.int .i64) (0 : Int)]), (30001, [], .box [.p (.sl (.int .u8)) s.2.1, .p .bool s.2.2]), (30200, [], .box [.own 30400, .p (.int .i64) v2]), (30400, [], .arr 87 (.pr (.int .i64) (.pr (.int .i64) (.pr (.int .i64) (.sl (.sl (.int .i64)))))) l6120)]⟩ : St)) (fun s => VC27_k5 many l6120 X1 v23 s.1 s.2.1 s.2.2) (fun s h => ?_) (fun rest8 => ?_)
                · obtain ⟨v24, rv9, rv10⟩ := s
                  have h : VC27_k5 many l6120 X1 v23 v24 rv9 rv10 := h
                  unfold VC27_k5 at h
                  refine inlR_n (.v (.c (.p (.int .i64) v24))) (by kernel_rfl) rfl ?_
                  refine awl_conv [.prune [2, 5, 6, 7, 57, 59] [30000, 30001, 30200, 30400]] (st' := (⟨128, [(2, [], .v (.c (.ptr 30000 0))), (5, [], .v (.c (.ptr 30001 0))), (6, [], .v (.c (.ptr 30200 0))), (7, [], .v (.c (.p (.int .i64) many))), (57, [], .v (.c (.p (.int .i64) v23))), (59, [], .v (.c (.p (.int .i64) v24)))], [(30000, [], .box [.nils, .p (.int .i64) (0 : Int)]), (30001, [], .box [.p (.sl (.int .u8)) rv9, .p .bool rv10]), (30200, [], .box [.own 30400, .p (.int .i64) v2]), (30400, [], .arr 87 (.pr (.int .i64) (.pr (.int .i64) (.pr (.int .i64) (.sl (.sl (.int .i64)))))) l6120)]⟩ : St)) (by kernel_rfl) ?_
                  refine awl_runp 1 [2, 5, 6, 7, 57, 59, 60] [30000, 30001, 30200, 30400] (ob := (True ∧ True)) (st' := (⟨128, [(2, [], .v (.c (.ptr 30000 0))), (5, [], .v (.c (.ptr 30001 0))), (6, [], .v (.c (.ptr 30200 0))), (7, [], .v (.c (.p (.int .i64) many))), (57, [], .v (.c (.p (.int .i64) v23))), (59, [], .v (.c (.p (.int .i64) v24))), (60, [], .v (.c (.ptr 30001 0)))], [(30000, [], .box [.nils, .p (.int .i64) (0 : Int)]), (30001, [], .box [.p (.sl (.int .u8)) rv9, .p .bool rv10]), (30200, [], .box [.own 30400, .p (.int .i64) v2]), (30400, [], .arr 87 (.pr (.int .i64) (.pr (.int .i64) (.pr (.int .i64) (.sl (.sl (.int .i64)))))) l6120)]⟩ : St)) (by kernel_rfl) ⟨trivial, trivial⟩ ?_
                  refine awl_inlr [2] [30000, 30001, 30200, 30400] [.c (.ptr 30001 0)] [] rfl rfl (by kernel_rfl) rfl (by kernel_rfl) Try.call51 (by kernel_rfl) (by kernel_rfl) Try.func51 rfl rfl (by kernel_rfl) ?_
                  refine aw_conv [] (st' := (⟨38, [(0, [], .v (.c (.ptr 30001 0))), (40, [], .v (.c (.ptr 30000 0))), (43, [], .v (.c (.ptr 30001 0))), (44, [], .v (.c (.ptr 30200 0))), (45, [], .v (.c (.p (.int .i64) many))), (95, [], .v (.c (.p (.int .i64) v23))), (97, [], .v (.c (.p (.int .i64) v24))), (98, [], .v (.c (.ptr 30001 0)))], [(30000, [], .box [.nils, .p (.int .i64) (0 : Int)]), (30001, [], .box [.p (.sl (.int .u8)) rv9, .p .bool rv10]), (30200, [], .box [.own 30400, .p (.int .i64) v2]), (30400, [], .arr 87 (.pr (.int .i64) (.pr (.int .i64) (.pr (.int .i64) (.sl (.sl (.int .i64)))))) l6120)]⟩ : St)) (by kernel_rfl) ?_
                  refine withJoinR (σ := Int × (List Int) × Bool) (fun s => (⟨38, [(2, [], .v (.c (.p (.int .i64) s.1))), (40, [], .v (.c (.ptr 30000 0))), (43, [], .v (.c (.ptr 30001 0))), (44, [], .v (.c (.ptr 30200 0))), (45, [], .v (.c (.p (.int .i64) many))), (95, [], .v (.c (.p (.int .i64) v23))), (97, [], .v (.c (.p (.int .i64) v24)))], [(30000, [], .box [.nils, .p (.int .i64) (0 : Int)]), (30001, [], .box [.p (.sl (.int .u8)) s.2.1, .p .bool s.2.2]), (30200, [], .box [.own 30400, .p (.int .i64) v2]), (30400, [], .arr 87 (.pr (.int .i64) (.pr (.int .i64) (.pr (.int .i64) (.sl (.sl (.int .i64)))))) l6120)]⟩ : St)) (fun s => VC27_k6 many l6120 X1 v23 v24 s.1 s.2.1 s.2.2) (fun s h => ?_) (fun rest7 => ?_)
                  · obtain ⟨v25, rv11, rv12⟩ := s
                    have h : VC27_k6 many l6120 X1 v23 v24 v25 rv11 rv12 := h
                    unfold VC27_k6 at h
                    refine inlR_n (.v (.c (.p (.int .i64) v25))) (by kernel_rfl) rfl ?_
                    refine awl_conv [.prune [2, 5, 6, 7, 57, 59, 61] [30000, 30001, 30200, 30400]] (st' := (⟨128, [(2, [], .v (.c (.ptr 30000 0))), (5, [], .v (.c (.ptr 30001 0))), (6, [], .v (.c (.ptr 30200 0))), (7, [], .v (.c (.p (.int .i64) many))), (57, [], .v (.c (.p (.int .i64) v23))), (59, [], .v (.c (.p (.int .i64) v24))), (61, [], .v (.c (.p (.int .i64) v25)))], [(30000, [], .box [.nils, .p (.int .i64) (0 : Int)]), (30001, [], .box [.p (.sl (.int .u8)) rv11, .p .bool rv12]), (30200, [], .box [.own 30400, .p (.int .i64) v2]), (30400, [], .arr 87 (.pr (.int .i64) (.pr (.int .i64) (.pr (.int .i64) (.sl (.sl (.int .i64)))))) l6120)]⟩ : St)) (by kernel_rfl) ?_
                    refine awl_runp 3 [2, 5, 6, 7, 8] [8, 30000, 30001, 30200, 30400] (ob := (True ∧ True ∧ True ∧ True)) (st' := (⟨128, [(2, [], .v (.c (.ptr 30000 0))), (5, [], .v (.c (.ptr 30001 0))), (6, [], .v (.c (.ptr 30200 0))), (7, [], .v (.c (.p (.int .i64) many))), (8, [], .v (.c (.ptr 8 0)))], [(8, [], .box [.p (.int .i64) v23, .p (.int .i64) v24, .p (.int .i64) v25, .nils]), (30000, [], .box [.nils, .p (.int .i64) (0 : Int)]), (30001, [], .box [.p (.sl (.int .u8)) rv11, .p .bool rv12]), (30200, [], .box [.own 30400, .p (.int .i64) v2]), (30400, [], .arr 87 (.pr (.int .i64) (.pr (.int .i64) (.pr (.int .i64) (.sl (.sl (.int .i64)))))) l6120)]⟩ : St)) (by kernel_rfl) ⟨trivial, trivial, trivial, trivial⟩ ?_
                    refine awl_nil ?_
                    refine thenQ_n ?_
                    refine aw_seq ?_
                    refine aw_seq ?_
                    refine aw_region ?_
                    refine awl_runp 1 [2, 5, 6, 7, 8, 63] [8, 30000, 30001, 30200, 30400] (ob := (True ∧ True)) (st' := (⟨128, [(2, [], .v (.c (.ptr 30000 0))), (5, [], .v (.c (.ptr 30001 0))), (6, [], .v (.c (.ptr 30200 0))), (7, [], .v (.c (.p (.int .i64) many))), (8, [], .v (.c (.ptr 8 0))), (63, [], .v (.c (.ptr 30001 0)))], [(8, [], .box [.p (.int .i64) v23, .p (.int .i64) v24, .p (.int .i64) v25, .nils]), (30000, [], .box [.nils, .p (.int .i64) (0 : Int)]), (30001, [], .box [.p (.sl (.int .u8)) rv11, .p .bool rv12]), (30200, [], .box [.own 30400, .p (.int .i64) v2]), (30400, [], .arr 87 (.pr (.int .i64) (.pr (.int .i64) (.pr (.int .i64) (.sl (.sl (.int .i64)))))) l6120)]⟩ : St)) (by kernel_rfl) ⟨trivial, trivial⟩ ?_
                    refine awl_conv [.ren 8 30800] (st' := (⟨128, [(2, [], .v (.c (.ptr 30000 0))), (5, [], .v (.c (.ptr 30001 0))), (6, [], .v (.c (.ptr 30200 0))), (7, [], .v (.c (.p (.int .i64) many))), (8, [], .v (.c (.ptr 30800 0))), (63, [], .v (.c (.ptr 30001 0)))], [(30800, [], .box [.p (.int .i64) v23, .p (.int .i64) v24, .p (.int .i64) v25, .nils]), (30000, [], .box [.nils, .p (.int .i64) (0 : Int)]), (30001, [], .box [.p (.sl (.int .u8)) rv11, .p .bool rv12]), (30200, [], .box [.own 30400, .p (.int .i64) v2]), (30400, [], .arr 87 (.pr (.int .i64) (.pr (.int .i64) (.pr (.int .i64) (.sl (.sl (.int .i64)))))) l6120)]⟩ : St)) (by kernel_rfl) ?_
                    refine awl_inlr [2] [30800, 30000, 30001, 30200, 30400] [.c (.ptr 30001 0)] [] rfl rfl (by kernel_rfl) rfl (by kernel_rfl) Try.call51 (by kernel_rfl) (by kernel_rfl) Try.func51 rfl rfl (by kernel_rfl) ?_
                    refine aw_conv [] (st' := (⟨38, [(0, [], .v (.c (.ptr 30001 0))), (40, [], .v (.c (.ptr 30000 0))), (43, [], .v (.c (.ptr 30001 0))), (44, [], .v (.c (.ptr 30200 0))), (45, [], .v (.c (.p (.int .i64) many))), (46, [], .v (.c (.ptr 30800 0))), (101, [], .v (.c (.ptr 30001 0)))], [(30800, [], .box [.p (.int .i64) v23, .p (.int .i64) v24, .p (.int .i64) v25, .nils]), (30000, [], .box [.nils, .p (.int .i64) (0 : Int)]), (30001, [], .box [.p (.sl (.int .u8)) rv11, .p .bool rv12]), (30200, [], .box [.own 30400, .p (.int .i64) v2]), (30400, [], .arr 87 (.pr (.int .i64) (.pr (.int .i64) (.pr (.int .i64) (.sl (.sl (.int .i64)))))) l6120)]⟩ : St)) (by kernel_rfl) ?_
                    refine withJoinR (σ := Int × (List Int) × Bool) (fun s => (⟨38, [(2, [], .v (.c (.p (.int .i64) s.1))), (40, [], .v (.c (.ptr 30000 0))), (43, [], .v (.c (.ptr 30001 0))), (44, [], .v (.c (.ptr 30200 0))), (45, [], .v (.c (.p (.int .i64) many))), (46, [], .v (.c (.ptr 30800 0)))], [(30000, [], .box [.nils, .p (.int .i64) (0 : Int)]), (30001, [], .box [.p (.sl (.int .u8)) s.2.1, .p .bool s.2.2]), (30200, [], .box [.own 30400, .p (.int .i64) v2]), (30400, [], .arr 87 (.pr (.int .i64) (.pr (.int .i64) (.pr (.int .i64) (.sl (.sl (.int .i64)))))) l6120), (30800, [], .box [.p (.int .i64) v23, .p (.int .i64) v24, .p (.int .i64) v25, .nils])]⟩ : St)) (fun s => VC27_k7 many l6120 X1 v23 v24 v25 s.1 s.2.1 s.2.2) (fun s h => ?_) (fun rest6 => ?_)
                    · obtain ⟨v26, rv13, rv14⟩ := s
                      have h : VC27_k7 many l6120 X1 v23 v24 v25 v26 rv13 rv14 := h
                      unfold VC27_k7 at h
                      refine inlR_n (.v (.c (.p (.int .i64) v26))) (by kernel_rfl) rfl ?_
                      refine awl_conv [.prune [2, 5, 6, 7, 8, 64] [30000, 30001, 30200, 30400, 30800]] (st' := (⟨128, [(2, [], .v (.c (.ptr 30000 0))), (5, [], .v (.c (.ptr 30001 0))), (6, [], .v (.c (.ptr 30200 0))), (7, [], .v (.c (.p (.int .i64) many))), (8, [], .v (.c (.ptr 30800 0))), (64, [], .v (.c (.p (.int .i64) v26)))], [(30000, [], .box [.nils, .p (.int .i64) (0 : Int)]), (30001, [], .box [.p (.sl (.int .u8)) rv13, .p .bool rv14]), (30200, [], .box [.own 30400, .p (.int .i64) v2]), (30400, [], .arr 87 (.pr (.int .i64) (.pr (.int .i64) (.pr (.int .i64) (.sl (.sl (.int .i64)))))) l6120), (30800, [], .box [.p (.int .i64) v23, .p (.int .i64) v24, .p (.int .i64) v25, .nils])]⟩ : St)) (by kernel_rfl) ?_
                      refine awl_runp 1 [2, 5, 6, 7, 8, 9] [30000, 30001, 30200, 30400, 30800] (ob := (True ∧ True)) (st' := (⟨128, [(2, [], .v (.c (.ptr 30000 0))), (5, [], .v (.c (.ptr 30001 0))), (6, [], .v (.c (.ptr 30200 0))), (7, [], .v (.c (.p (.int .i64) many))), (8, [], .v (.c (.ptr 30800 0))), (9, [], .v (.c (.p (.int .i64) v26)))], [(30000, [], .box [.nils, .p (.int .i64) (0 : Int)]), (30001, [], .box [.p (.sl (.int .u8)) rv13, .p .bool rv14]), (30200, [], .box [.own 30400, .p (.int .i64) v2]), (30400, [], .arr 87 (.pr (.int .i64) (.pr (.int .i64) (.pr (.int .i64) (.sl (.sl (.int .i64)))))) l6120), (30800, [], .box [.p (.int .i64) v23, .p (.int .i64) v24, .p (.int .i64) v25, .nils])]⟩ : St)) (by kernel_rfl) ⟨trivial, trivial⟩ ?_
                      refine awl_nil ?_
                      refine thenQ_n ?_
                      refine withJoin (σ := (List (List Int)) × (List Int) × Bool) (fun s => (⟨128, [(2, [], .v (.c (.ptr 30000 0))), (5, [], .v (.c (.ptr 30001 0))), (6, [], .v (.c (.ptr 30200 0))), (7, [], .v (.c (.p (.int .i64) many))), (8, [], .v (.c (.ptr 30800 0)))], [(6163, [], .arr 32 (.sl (.int .i64)) s.1), (30000, [], .box [.nils, .p (.int .i64) (0 : Int)]), (30001, [], .box [.p (.sl (.int .u8)) s.2.1, .p .bool s.2.2]), (30200, [], .box [.own 30400, .p (.int .i64) v2]), (30400, [], .arr 87 (.pr (.int .i64) (.pr (.int .i64) (.pr (.int .i64) (.sl (.sl (.int .i64)))))) l6120), (30800, [], .box [.p (.int .i64) v23, .p (.int .i64) v24, .p (.int .i64) v25, .own 6163])]⟩ : St)) (fun s => VC27_k8 many l6120 X1 v23 v24 v25 s.1 s.2.1 s.2.2) (fun s h => ?_) (fun rest2 => ?_)
                      · obtain ⟨l6163, rv15, rv16⟩ := s
                        have h : VC27_k8 many l6120 X1 v23 v24 v25 l6163 rv15 rv16 := h
                        unfold VC27_k8 at h
                        refine thenQ_n ?_
                        refine aw_region ?_
                        refine awl_runp 3 [2, 5, 6, 7, 101, 102] [6163, 30000, 30001, 30200, 30400] (ob := (True ∧ True ∧ True ∧ True)) (st' := (⟨128, [(2, [], .v (.c (.ptr 30000 0))), (5, [], .v (.c (.ptr 30001 0))), (6, [], .v (.c (.ptr 30200 0))), (7, [], .v (.c (.p (.int .i64) many))), (101, [], .v (.c (.own 30400))), (102, [], .v (.agg [.p (.int .i64) v23, .p (.int .i64) v24, .p (.int .i64) v25, .own 6163]))], [(6163, [], .arr 32 (.sl (.int .i64)) l6163), (30000, [], .box [.nils, .p (.int .i64) (0 : Int)]), (30001, [], .box [.p (.sl (.int .u8)) rv15, .p .bool rv16]), (30200, [], .box [.own 30400, .p (.int .i64) v2]), (30400, [], .arr 87 (.pr (.int .i64) (.pr (.int .i64) (.pr (.int .i64) (.sl (.sl (.int .i64)))))) l6120)]⟩ : St)) (by kernel_rfl) ⟨trivial, trivial, trivial, trivial⟩ ?_
                        refine awl_conv [.freeze 6163] (st' := (⟨128, [(2, [], .v (.c (.ptr 30000 0))), (5, [], .v (.c (.ptr 30001 0))), (6, [], .v (.c (.ptr 30200 0))), (7, [], .v (.c (.p (.int .i64) many))), (101, [], .v (.c (.own 30400))), (102, [], .v (.agg [.p (.int .i64) v23, .p (.int .i64) v24, .p (.int .i64) v25, .p (.sl (.sl (.int .i64))) l6163]))], [(30000, [], .box [.nils, .p (.int .i64) (0 : Int)]), (30001, [], .box [.p (.sl (.int .u8)) rv15, .p .bool rv16]), (30200, [], .box [.own 30400, .p (.int .i64) v2]), (30400, [], .arr 87 (.pr (.int .i64) (.pr (.int .i64) (.pr (.int .i64) (.sl (.sl (.int .i64)))))) l6120)]⟩ : St)) (by kernel_rfl) ?_
                        obtain ⟨o1, h⟩ := h
                        refine awl_runp 4 [2, 5, 6, 7] [104, 30000, 30001, 30200] (ob := (True ∧ roomN (l6120.length + [(v23, (v24, (v25, l6163)))].length) ∧ True ∧ True ∧ True)) (st' := (⟨128, [(2, [], .v (.c (.ptr 30000 0))), (5, [], .v (.c (.ptr 30001 0))), (6, [], .v (.c (.ptr 30200 0))), (7, [], .v (.c (.p (.int .i64) many)))], [(104, [], .arr 87 (.pr (.int .i64) (.pr (.int .i64) (.pr (.int .i64) (.sl (.sl (.int .i64)))))) (l6120 ++ [(v23, (v24, (v25, l6163)))])), (30000, [], .box [.nils, .p (.int .i64) (0 : Int)]), (30001, [], .box [.p (.sl (.int .u8)) rv15, .p .bool rv16]), (30200, [], .box [.own 104, .p (.int .i64) v2])]⟩ : St)) (by kernel_rfl) ⟨trivial, o1, trivial, trivial, trivial⟩ ?_
                        refine awl_nil ?_
                        refine blockQ_n ?_
                        refine thenQ_n ?_
                        refine aw_region ?_
                        obtain ⟨o1, h⟩ := h
                        refine awl_runp 3 [2, 5, 6, 7] [104, 30000, 30001, 30200] (ob := (True ∧ InR (many - (1 : Int)) ∧ True ∧ True)) (st' := (⟨128, [(2, [], .v (.c (.ptr 30000 0))), (5, [], .v (.c (.ptr 30001 0))), (6, [], .v (.c (.ptr 30200 0))), (7, [], .v (.c (.p (.int .i64) (many - (1 : Int)))))], [(104, [], .arr 87 (.pr (.int .i64) (.pr (.int .i64) (.pr (.int .i64) (.sl (.sl (.int .i64)))))) (l6120 ++ [(v23, (v24, (v25, l6163)))])), (30000, [], .box [.nils, .p (.int .i64) (0 : Int)]), (30001, [], .box [.p (.sl (.int .u8)) rv15, .p .bool rv16]), (30200, [], .box [.own 104, .p (.int .i64) v2])]⟩ : St)) (by kernel_rfl) ⟨trivial, o1, trivial, trivial⟩ ?_
                        refine awl_conv [.ren 104 20104, .ren 20104 6120] (st' := (⟨128, [(2, [], .v (.c (.ptr 30000 0))), (5, [], .v (.c (.ptr 30001 0))), (6, [], .v (.c (.ptr 30200 0))), (7, [], .v (.c (.p (.int .i64) (many - (1 : Int)))))], [(6120, [], .arr 87 (.pr (.int .i64) (.pr (.int .i64) (.pr (.int .i64) (.sl (.sl (.int .i64)))))) (l6120 ++ [(v23, (v24, (v25, l6163)))])), (30000, [], .box [.nils, .p (.int .i64) (0 : Int)]), (30001, [], .box [.p (.sl (.int .u8)) rv15, .p .bool rv16]), (30200, [], .box [.own 6120, .p (.int .i64) v2])]⟩ : St)) (by kernel_rfl) ?_
                        refine awl_nil ?_
                        exact thenQ_n ⟨((many - (1 : Int)), (l6120 ++ [(v23, (v24, (v25, l6163)))]), rv15, rv16), rfl, h⟩
                      · refine aw_block ?_
                        refine aw_conv [.nilOwnB 30800 3 6163 32 (.sl (.int .i64))] (st' := (⟨128, [(2, [], .v (.c (.ptr 30000 0))), (5, [], .v (.c (.ptr 30001 0))), (6, [], .v (.c (.ptr 30200 0))), (7, [], .v (.c (.p (.int .i64) many))), (8, [], .v (.c (.ptr 30800 0))), (9, [], .v (.c (.p (.int .i64) v26)))], [(6163, [], .arr 32 (.sl (.int .i64)) ([] : List (List Int))), (30000, [], .box [.nils, .p (.int .i64) (0 : Int)]), (30001, [], .box [.p (.sl (.int .u8)) rv13, .p .bool rv14]), (30200, [], .box [.own 30400, .p (.int .i64) v2]), (30400, [], .arr 87 (.pr (.int .i64) (.pr (.int .i64) (.pr (.int .i64) (.sl (.sl (.int .i64)))))) l6120), (30800, [], .box [.p (.int .i64) v23, .p (.int .i64) v24, .p (.int .i64) v25, .own 6163])]⟩ : St)) (by kernel_rfl) ?_
                        refine aw_loop (σ := Int × (List (List Int)) × (List Int) × Bool) (fun s => (⟨128, [(2, [], .v (.c (.ptr 30000 0))), (5, [], .v (.c (.ptr 30001 0))), (6, [], .v (.c (.ptr 30200 0))), (7, [], .v (.c (.p (.int .i64) many))), (8, [], .v (.c (.ptr 30800 0))), (9, [], .v (.c (.p (.int .i64) s.1)))], [(6163, [], .arr 32 (.sl (.int .i64)) s.2.1), (30000, [], .box [.nils, .p (.int .i64) (0 : Int)]), (30001, [], .box [.p (.sl (.int .u8)) s.2.2.1, .p .bool s.2.2.2]), (30200, [], .box [.own 30400, .p (.int .i64) v2]), (30400, [], .arr 87 (.pr (.int .i64) (.pr (.int .i64) (.pr (.int .i64) (.sl (.sl (.int .i64)))))) l6120), (30800, [], .box [.p (.int .i64) v23, .p (.int .i64) v24, .p (.int .i64) v25, .own 6163])]⟩ : St)) (fun s X => VC27_l2 many l6120 X1 v23 v24 v25 s.1 s.2.1 s.2.2.1 s.2.2.2 X) (s0 := (v26, ([] : List (List Int)), rv13, rv14)) (fun s X2 h => ?_) h
                        obtain ⟨ways, l6163, rv15, rv16⟩ := s
                        have h : VC27_l2 many l6120 X1 v23 v24 v25 ways l6163 rv15 rv16 X2 := h
                        unfold VC27_l2 at h
                        refine aw_seq ?_
                        refine aw_seq ?_
                        refine aw_region ?_
                        refine awl_runp 9 [2, 5, 6, 7, 8, 9, 73] [6163, 30000, 30001, 30200, 30400, 30800] (ob := (True ∧ True ∧ True ∧ ((decide ((0 : Int) < ways)) = true → True) ∧ ((decide ((0 : Int) < ways)) = true → True) ∧ ((decide ((0 : Int) < ways)) = true → True) ∧ ((decide ((0 : Int) < ways)) = true → True) ∧ ((decide ((0 : Int) < ways)) = true → True) ∧ True ∧ True)) (st' := (⟨128, [(2, [], .v (.c (.ptr 30000 0))), (5, [], .v (.c (.ptr 30001 0))), (6, [], .v (.c (.ptr 30200 0))), (7, [], .v (.c (.p (.int .i64) many))), (8, [], .v (.c (.ptr 30800 0))), (9, [], .v (.c (.p (.int .i64) ways))), (73, [], .v (.c (.p .bool ((decide ((0 : Int) < ways)) && (!rv16)))))], [(6163, [], .arr 32 (.sl (.int .i64)) l6163), (30000, [], .box [.nils, .p (.int .i64) (0 : Int)]), (30001, [], .box [.p (.sl (.int .u8)) rv15, .p .bool rv16]), (30200, [], .box [.own 30400, .p (.int .i64) v2]), (30400, [], .arr 87 (.pr (.int .i64) (.pr (.int .i64) (.pr (.int .i64) (.sl (.sl (.int .i64)))))) l6120), (30800, [], .box [.p (.int .i64) v23, .p (.int .i64) v24, .p (.int .i64) v25, .own 6163])]⟩ : St)) (by kernel_rfl) ⟨trivial, trivial, trivial, (fun _ => trivial), (fun _ => trivial), (fun _ => trivial), (fun _ => trivial), (fun _ => trivial), trivial, trivial⟩ ?_
                        refine awl_nil ?_
                        refine thenQ_n ?_
                        refine aw_cond (b := ((decide ((0 : Int) < ways)) && (!rv16))) (by kernel_rfl) (fun hb => ?_) (fun hb => ?_)
                        · have h := h.1 hb
                          refine aw_skip ?_
                          refine thenQ_n ?_
                          refine aw_seq ?_
                          refine aw_block ?_
                          refine aw_seq ?_
                          refine aw_region ?_
                          refine awl_runp 1 [2, 5, 6, 7, 8, 9, 10] [6163, 30000, 30001, 30200, 30400, 30800] (ob := (True ∧ True)) (st' := (⟨128, [(2, [], .v (.c (.ptr 30000 0))), (5, [], .v (.c (.ptr 30001 0))), (6, [], .v (.c (.ptr 30200 0))), (7, [], .v (.c (.p (.int .i64) many))), (8, [], .v (.c (.ptr 30800 0))), (9, [], .v (.c (.p (.int .i64) ways))), (10, [], .v (.c (.nils)))], [(6163, [], .arr 32 (.sl (.int .i64)) l6163), (30000, [], .box [.nils, .p (.int .i64) (0 : Int)]), (30001, [], .box [.p (.sl (.int .u8)) rv15, .p .bool rv16]), (30200, [], .box [.own 30400, .p (.int .i64) v2]), (30400, [], .arr 87 (.pr (.int .i64) (.pr (.int .i64) (.pr (.int .i64) (.sl (.sl (.int .i64)))))) l6120), (30800, [], .box [.p (.int .i64) v23, .p (.int .i64) v24, .p (.int .i64) v25, .own 6163])]⟩ : St)) (by kernel_rfl) ⟨trivial, trivial⟩ ?_
                          refine awl_nil ?_
                          refine thenQ_n ?_
                          refine aw_seq ?_
                          refine aw_seq ?_
                          refine aw_region ?_
                          refine awl_runp 1 [2, 5, 6, 7, 8, 9, 10, 76] [6163, 30000, 30001, 30200, 30400, 30800] (ob := (True ∧ True)) (st' := (⟨128, [(2, [], .v (.c (.ptr 30000 0))), (5, [], .v (.c (.ptr 30001 0))), (6, [], .v (.c (.ptr 30200 0))), (7, [], .v (.c (.p (.int .i64) many))), (8, [], .v (.c (.ptr 30800 0))), (9, [], .v (.c (.p (.int .i64) ways))), (10, [], .v (.c (.nils))), (76, [], .v (.c (.ptr 30001 0)))], [(6163, [], .arr 32 (.sl (.int .i64)) l6163), (30000, [], .box [.nils, .p (.int .i64) (0 : Int)]), (30001, [], .box [.p (.sl (.int .u8)) rv15, .p .bool rv16]), (30200, [], .box [.own 30400, .p (.int .i64) v2]), (30400, [], .arr 87 (.pr (.int .i64) (.pr (.int .i64) (.pr (.int .i64) (.sl (.sl (.int .i64)))))) l6120), (30800, [], .box [.p (.int .i64) v23, .p (.int .i64) v24, .p (.int .i64) v25, .own 6163])]⟩ : St)) (by kernel_rfl) ⟨trivial, trivial⟩ ?_
                          refine awl_conv [.ren 6163 31000] (st' := (⟨128, [(2, [], .v (.c (.ptr 30000 0))), (5, [], .v (.c (.ptr 30001 0))), (6, [], .v (.c (.ptr 30200 0))), (7, [], .v (.c (.p (.int .i64) many))), (8, [], .v (.c (.ptr 30800 0))), (9, [], .v (.c (.p (.int .i64) ways))), (10, [], .v (.c (.nils))), (76, [], .v (.c (.ptr 30001 0)))], [(31000, [], .arr 32 (.sl (.int .i64)) l6163), (30000, [], .box [.nils, .p (.int .i64) (0 : Int)]), (30001, [], .box [.p (.sl (.int .u8)) rv15, .p .bool rv16]), (30200, [], .box [.own 30400, .p (.int .i64) v2]), (30400, [], .arr 87 (.pr (.int .i64) (.pr (.int .i64) (.pr (.int .i64) (.sl (.sl (.int .i64)))))) l6120), (30800, [], .box [.p (.int .i64) v23, .p (.int .i64) v24, .p (.int .i64) v25, .own 31000])]⟩ : St)) (by kernel_rfl) ?_
                          refine awl_inlr [2] [31000, 30000, 30001, 30200, 30400, 30800] [.c (.ptr 30001 0)] [] rfl rfl (by kernel_rfl) rfl (by kernel_rfl) Try.call51 (by kernel_rfl) (by kernel_rfl) Try.func51 rfl rfl (by kernel_rfl) ?_
                          refine aw_conv [] (st' := (⟨38, [(0, [], .v (.c (.ptr 30001 0))), (40, [], .v (.c (.ptr 30000 0))), (43, [], .v (.c (.ptr 30001 0))), (44, [], .v (.c (.ptr 30200 0))), (45, [], .v (.c (.p (.int .i64) many))), (46, [], .v (.c (.ptr 30800 0))), (47, [], .v (.c (.p (.int .i64) ways))), (48, [], .v (.c (.nils))), (114, [], .v (.c (.ptr 30001 0)))], [(31000, [], .arr 32 (.sl (.int .i64)) l6163), (30000, [], .box [.nils, .p (.int .i64) (0 : Int)]), (30001, [], .box [.p (.sl (.int .u8)) rv15, .p .bool rv16]), (30200, [], .box [.own 30400, .p (.int .i64) v2]), (30400, [], .arr 87 (.pr (.int .i64) (.pr (.int .i64) (.pr (.int .i64) (.sl (.sl (.int .i64)))))) l6120), (30800, [], .box [.p (.int .i64) v23, .p (.int .i64) v24, .p (.int .i64) v25, .own 31000])]⟩ : St)) (by kernel_rfl) ?_
                          refine withJoinR (σ := Int × (List Int) × Bool) (fun s => (⟨38, [(2, [], .v (.c (.p (.int .i64) s.1))), (40, [], .v (.c (.ptr 30000 0))), (43, [], .v (.c (.ptr 30001 0))), (44, [], .v (.c (.ptr 30200 0))), (45, [], .v (.c (.p (.int .i64) many))), (46, [], .v (.c (.ptr 30800 0))), (47, [], .v (.c (.p (.int .i64) ways))), (48, [], .v (.c (.nils)))], [(30000, [], .box [.nils, .p (.int .i64) (0 : Int)]), (30001, [], .box [.p (.sl (.int .u8)) s.2.1, .p .bool s.2.2]), (30200, [], .box [.own 30400, .p (.int .i64) v2]), (30400, [], .arr 87 (.pr (.int .i64) (.pr (.int .i64) (.pr (.int .i64) (.sl (.sl (.int .i64)))))) l6120), (30800, [], .box [.p (.int .i64) v23, .p (.int .i64) v24, .p (.int .i64) v25, .own 31000]), (31000, [], .arr 32 (.sl (.int .i64)) l6163)]⟩ : St)) (fun s => VC27_k9 ways l6163 X2 s.1 s.2.1 s.2.2) (fun s h => ?_) (fun rest5 => ?_)
                          · obtain ⟨v27, rv17, rv18⟩ := s
                            have h : VC27_k9 ways l6163 X2 v27 rv17 rv18 := h
                            unfold VC27_k9 at h
                            refine inlR_n (.v (.c (.p (.int .i64) v27))) (by kernel_rfl) rfl ?_
                            refine awl_conv [.prune [2, 5, 6, 7, 8, 9, 10, 77] [30000, 30001, 30200, 30400, 30800, 31000]] (st' := (⟨128, [(2, [], .v (.c (.ptr 30000 0))), (5, [], .v (.c (.ptr 30001 0))), (6, [], .v (.c (.ptr 30200 0))), (7, [], .v (.c (.p (.int .i64) many))), (8, [], .v (.c (.ptr 30800 0))), (9, [], .v (.c (.p (.int .i64) ways))), (10, [], .v (.c (.nils))), (77, [], .v (.c (.p (.int .i64) v27)))], [(30000, [], .box [.nils, .p (.int .i64) (0 : Int)]), (30001, [], .box [.p (.sl (.int .u8)) rv17, .p .bool rv18]), (30200, [], .box [.own 30400, .p (.int .i64) v2]), (30400, [], .arr 87 (.pr (.int .i64) (.pr (.int .i64) (.pr (.int .i64) (.sl (.sl (.int .i64)))))) l6120), (30800, [], .box [.p (.int .i64) v23, .p (.int .i64) v24, .p (.int .i64) v25, .own 31000]), (31000, [], .arr 32 (.sl (.int .i64)) l6163)]⟩ : St)) (by kernel_rfl) ?_
                            refine awl_runp 1 [2, 5, 6, 7, 8, 9, 10, 11] [30000, 30001, 30200, 30400, 30800, 31000] (ob := (True ∧ True)) (st' := (⟨128, [(2, [], .v (.c (.ptr 30000 0))), (5, [], .v (.c (.ptr 30001 0))), (6, [], .v (.c (.ptr 30200 0))), (7, [], .v (.c (.p (.int .i64) many))), (8, [], .v (.c (.ptr 30800 0))), (9, [], .v (.c (.p (.int .i64) ways))), (10, [], .v (.c (.nils))), (11, [], .v (.c (.p (.int .i64) v27)))], [(30000, [], .box [.nils, .p (.int .i64) (0 : Int)]), (30001, [], .box [.p (.sl (.int .u8)) rv17, .p .bool rv18]), (30200, [], .box [.own 30400, .p (.int .i64) v2]), (30400, [], .arr 87 (.pr (.int .i64) (.pr (.int .i64) (.pr (.int .i64) (.sl (.sl (.int .i64)))))) l6120), (30800, [], .box [.p (.int .i64) v23, .p (.int .i64) v24, .p (.int .i64) v25, .own 31000]), (31000, [], .arr 32 (.sl (.int .i64)) l6163)]⟩ : St)) (by kernel_rfl) ⟨trivial, trivial⟩ ?_
                            refine awl_nil ?_
                            refine thenQ_n ?_
                            refine withJoin (σ := (List Int) × (List Int) × Bool) (fun s => (⟨128, [(2, [], .v (.c (.ptr 30000 0))), (5, [], .v (.c (.ptr 30001 0))), (6, [], .v (.c (.ptr 30200 0))), (7, [], .v (.c (.p (.int .i64) many))), (8, [], .v (.c (.ptr 30800 0))), (9, [], .v (.c (.p (.int .i64) ways))), (10, [], .v (.c (.own 5010)))], [(5010, [], .arr 3 (.int .i64) s.1), (30000, [], .box [.nils, .p (.int .i64) (0 : Int)]), (30001, [], .box [.p (.sl (.int .u8)) s.2.1, .p .bool s.2.2]), (30200, [], .box [.own 30400, .p (.int .i64) v2]), (30400, [], .arr 87 (.pr (.int .i64) (.pr (.int .i64) (.pr (.int .i64) (.sl (.sl (.int .i64)))))) l6120), (30800, [], .box [.p (.int .i64) v23, .p (.int .i64) v24, .p (.int .i64) v25, .own 31000]), (31000, [], .arr 32 (.sl (.int .i64)) l6163)]⟩ : St)) (fun s => VC27_k10 ways l6163 X2 s.1 s.2.1 s.2.2) (fun s h => ?_) (fun rest3 => ?_)
                            · obtain ⟨w, rv19, rv20⟩ := s
                              have h : VC27_k10 ways l6163 X2 w rv19 rv20 := h
                              unfold VC27_k10 at h
                              refine thenQ_n ?_
                              refine aw_region ?_
                              refine awl_runp 3 [2, 5, 6, 7, 8, 9, 95, 96] [5010, 30000, 30001, 30200, 30400, 30800, 31000] (ob := (True ∧ True ∧ True ∧ True)) (st' := (⟨128, [(2, [], .v (.c (.ptr 30000 0))), (5, [], .v (.c (.ptr 30001 0))), (6, [], .v (.c (.ptr 30200 0))), (7, [], .v (.c (.p (.int .i64) many))), (8, [], .v (.c (.ptr 30800 0))), (9, [], .v (.c (.p (.int .i64) ways))), (95, [], .v (.c (.own 31000))), (96, [], .v (.c (.own 5010)))], [(5010, [], .arr 3 (.int .i64) w), (30000, [], .box [.nils, .p (.int .i64) (0 : Int)]), (30001, [], .box [.p (.sl (.int .u8)) rv19, .p .bool rv20]), (30200, [], .box [.own 30400, .p (.int .i64) v2]), (30400, [], .arr 87 (.pr (.int .i64) (.pr (.int .i64) (.pr (.int .i64) (.sl (.sl (.int .i64)))))) l6120), (30800, [], .box [.p (.int .i64) v23, .p (.int .i64) v24, .p (.int .i64) v25, .own 31000]), (31000, [], .arr 32 (.sl (.int .i64)) l6163)]⟩ : St)) (by kernel_rfl) ⟨trivial, trivial, trivial, trivial⟩ ?_
                              refine awl_conv [.freeze 5010] (st' := (⟨128, [(2, [], .v (.c (.ptr 30000 0))), (5, [], .v (.c (.ptr 30001 0))), (6, [], .v (.c (.ptr 30200 0))), (7, [], .v (.c (.p (.int .i64) many))), (8, [], .v (.c (.ptr 30800 0))), (9, [], .v (.c (.p (.int .i64) ways))), (95, [], .v (.c (.own 31000))), (96, [], .v (.c (.p (.sl (.int .i64)) w)))], [(30000, [], .box [.nils, .p (.int .i64) (0 : Int)]), (30001, [], .box [.p (.sl (.int .u8)) rv19, .p .bool rv20]), (30200, [], .box [.own 30400, .p (.int .i64) v2]), (30400, [], .arr 87 (.pr (.int .i64) (.pr (.int .i64) (.pr (.int .i64) (.sl (.sl (.int .i64)))))) l6120), (30800, [], .box [.p (.int .i64) v23, .p (.int .i64) v24, .p (.int .i64) v25, .own 31000]), (31000, [], .arr 32 (.sl (.int .i64)) l6163)]⟩ : St)) (by kernel_rfl) ?_
                              obtain ⟨o1, h⟩ := h
                              refine awl_runp 4 [2, 5, 6, 7, 8, 9] [98, 30000, 30001, 30200, 30400, 30800] (ob := (True ∧ roomN (l6163.length + [w].length) ∧ True ∧ True ∧ True)) (st' := (⟨128, [(2, [], .v (.c (.ptr 30000 0))), (5, [], .v (.c (.ptr 30001 0))), (6, [], .v (.c (.ptr 30200 0))), (7, [], .v (.c (.p (.int .i64) many))), (8, [], .v (.c (.ptr 30800 0))), (9, [], .v (.c (.p (.int .i64) ways)))], [(98, [], .arr 32 (.sl (.int .i64)) (l6163 ++ [w])), (30000, [], .box [.nils, .p (.int .i64) (0 : Int)]), (30001, [], .box [.p (.sl (.int .u8)) rv19, .p .bool rv20]), (30200, [], .box [.own 30400, .p (.int .i64) v2]), (30400, [], .arr 87 (.pr (.int .i64) (.pr (.int .i64) (.pr (.int .i64) (.sl (.sl (.int .i64)))))) l6120), (30800, [], .box [.p (.int .i64) v23, .p (.int .i64) v24, .p (.int .i64) v25, .own 98])]⟩ : St)) (by kernel_rfl) ⟨trivial, o1, trivial, trivial, trivial⟩ ?_
                              refine awl_nil ?_
                              refine blockQ_n ?_
                              refine thenQ_n ?_
                              refine aw_region ?_
                              obtain ⟨o1, h⟩ := h
                              refine awl_runp 3 [2, 5, 6, 7, 8, 9] [98, 30000, 30001, 30200, 30400, 30800] (ob := (True ∧ InR (ways - (1 : Int)) ∧ True ∧ True)) (st' := (⟨128, [(2, [], .v (.c (.ptr 30000 0))), (5, [], .v (.c (.ptr 30001 0))), (6, [], .v (.c (.ptr 30200 0))), (7, [], .v (.c (.p (.int .i64) many))), (8, [], .v (.c (.ptr 30800 0))), (9, [], .v (.c (.p (.int .i64) (ways - (1 : Int)))))], [(98, [], .arr 32 (.sl (.int .i64)) (l6163 ++ [w])), (30000, [], .box [.nils, .p (.int .i64) (0 : Int)]), (30001, [], .box [.p (.sl (.int .u8)) rv19, .p .bool rv20]), (30200, [], .box [.own 30400, .p (.int .i64) v2]), (30400, [], .arr 87 (.pr (.int .i64) (.pr (.int .i64) (.pr (.int .i64) (.sl (.sl (.int .i64)))))) l6120), (30800, [], .box [.p (.int .i64) v23, .p (.int .i64) v24, .p (.int .i64) v25, .own 98])]⟩ : St)) (by kernel_rfl) ⟨trivial, o1, trivial, trivial⟩ ?_
                              refine awl_conv [.ren 98 20098, .ren 20098 6163] (st' := (⟨128, [(2, [], .v (.c (.ptr 30000 0))), (5, [], .v (.c (.ptr 30001 0))), (6, [], .v (.c (.ptr 30200 0))), (7, [], .v (.c (.p (.int .i64) many))), (8, [], .v (.c (.ptr 30800 0))), (9, [], .v (.c (.p (.int .i64) (ways - (1 : Int)))))], [(6163, [], .arr 32 (.sl (.int .i64)) (l6163 ++ [w])), (30000, [], .box [.nils, .p (.int .i64) (0 : Int)]), (30001, [], .box [.p (.sl (.int .u8)) rv19, .p .bool rv20]), (30200, [], .box [.own 30400, .p (.int .i64) v2]), (30400, [], .arr 87 (.pr (.int .i64) (.pr (.int .i64) (.pr (.int .i64) (.sl (.sl (.int .i64)))))) l6120), (30800, [], .box [.p (.int .i64) v23, .p (.int .i64) v24, .p (.int .i64) v25, .own 6163])]⟩ : St)) (by kernel_rfl) ?_
                              refine awl_nil ?_
                              exact thenQ_n ⟨((ways - (1 : Int)), (l6163 ++ [w]), rv19, rv20), rfl, h⟩
                            · refine aw_block ?_
                              refine aw_conv [.nilOwn 10 5010 3 (.int .i64), .prune [2, 5, 6, 7, 8, 9, 10, 11] [5010, 30000, 30001, 30200, 30400, 30800, 31000]] (st' := (⟨128, [(2, [], .v (.c (.ptr 30000 0))), (5, [], .v (.c (.ptr 30001 0))), (6, [], .v (.c (.ptr 30200 0))), (7, [], .v (.c (.p (.int .i64) many))), (8, [], .v (.c (.ptr 30800 0))), (9, [], .v (.c (.p (.int .i64) ways))), (10, [], .v (.c (.own 5010))), (11, [], .v (.c (.p (.int .i64) v27)))], [(5010, [], .arr 3 (.int .i64) ([] : List Int)), (30000, [], .box [.nils, .p (.int .i64) (0 : Int)]), (30001, [], .box [.p (.sl (.int .u8)) rv17, .p .bool rv18]), (30200, [], .box [.own 30400, .p (.int .i64) v2]), (30400, [], .arr 87 (.pr (.int .i64) (.pr (.int .i64) (.pr (.int .i64) (.sl (.sl (.int .i64)))))) l6120), (30800, [], .box [.p (.int .i64) v23, .p (.int .i64) v24, .p (.int .i64) v25, .own 31000]), (31000, [], .arr 32 (.sl (.int .i64)) l6163)]⟩ : St)) (by kernel_rfl) ?_
                              refine aw_loop (σ := Int × (List Int) × (List Int) × Bool) (fun s => (⟨128, [(2, [], .v (.c (.ptr 30000 0))), (5, [], .v (.c (.ptr 30001 0))), (6, [], .v (.c (.ptr 30200 0))), (7, [], .v (.c (.p (.int .i64) many))), (8, [], .v (.c (.ptr 30800 0))), (9, [], .v (.c (.p (.int .i64) ways))), (10, [], .v (.c (.own 5010))), (11, [], .v (.c (.p (.int .i64) s.1)))], [(5010, [], .arr 3 (.int .i64) s.2.1), (30000, [], .box [.nils, .p (.int .i64) (0 : Int)]), (30001, [], .box [.p (.sl (.int .u8)) s.2.2.1, .p .bool s.2.2.2]), (30200, [], .box [.own 30400, .p (.int .i64) v2]), (30400, [], .arr 87 (.pr (.int .i64) (.pr (.int .i64) (.pr (.int .i64) (.sl (.sl (.int .i64)))))) l6120), (30800, [], .box [.p (.int .i64) v23, .p (.int .i64) v24, .p (.int .i64) v25, .own 31000]), (31000, [], .arr 32 (.sl (.int .i64)) l6163)]⟩ : St)) (fun s X => VC27_l3 ways l6163 X2 s.1 s.2.1 s.2.2.1 s.2.2.2 X) (s0 := (v27, ([] : List Int), rv17, rv18)) (fun s X3 h => ?_) h
                              obtain ⟨long, w, rv19, rv20⟩ := s
                              have h : VC27_l3 ways l6163 X2 long w rv19 rv20 X3 := h
                              unfold VC27_l3 at h
                              refine aw_seq ?_
                              refine aw_seq ?_
                              refine aw_region ?_
                              refine awl_runp 9 [2, 5, 6, 7, 8, 9, 10, 11, 86] [5010, 30000, 30001, 30200, 30400, 30800, 31000] (ob := (True ∧ True ∧ True ∧ ((decide ((0 : Int) < long)) = true → True) ∧ ((decide ((0 : Int) < long)) = true → True) ∧ ((decide ((0 : Int) < long)) = true → True) ∧ ((decide ((0 : Int) < long)) = true → True) ∧ ((decide ((0 : Int) < long)) = true → True) ∧ True ∧ True)) (st' := (⟨128, [(2, [], .v (.c (.ptr 30000 0))), (5, [], .v (.c (.ptr 30001 0))), (6, [], .v (.c (.ptr 30200 0))), (7, [], .v (.c (.p (.int .i64) many))), (8, [], .v (.c (.ptr 30800 0))), (9, [], .v (.c (.p (.int .i64) ways))), (10, [], .v (.c (.own 5010))), (11, [], .v (.c (.p (.int .i64) long))), (86, [], .v (.c (.p .bool ((decide ((0 : Int) < long)) && (!rv20)))))], [(5010, [], .arr 3 (.int .i64) w), (30000, [], .box [.nils, .p (.int .i64) (0 : Int)]), (30001, [], .box [.p (.sl (.int .u8)) rv19, .p .bool rv20]), (30200, [], .box [.own 30400, .p (.int .i64) v2]), (30400, [], .arr 87 (.pr (.int .i64) (.pr (.int .i64) (.pr (.int .i64) (.sl (.sl (.int .i64)))))) l6120), (30800, [], .box [.p (.int .i64) v23, .p (.int .i64) v24, .p (.int .i64) v25, .own 31000]), (31000, [], .arr 32 (.sl (.int .i64)) l6163)]⟩ : St)) (by kernel_rfl) ⟨trivial, trivial, trivial, (fun _ => trivial), (fun _ => trivial), (fun _ => trivial), (fun _ => trivial), (fun _ => trivial), trivial, trivial⟩ ?_
                              refine awl_nil ?_
                              refine thenQ_n ?_
                              refine aw_cond (b := ((decide ((0 : Int) < long)) && (!rv20))) (by kernel_rfl) (fun hb => ?_) (fun hb => ?_)
                              · have h := h.1 hb
                                refine aw_skip ?_
                                refine thenQ_n ?_
                                refine aw_seq ?_
                                refine aw_block ?_
                                refine aw_region ?_
                                refine awl_runp 2 [2, 5, 6, 7, 8, 9, 11, 89, 90] [5010, 30000, 30001, 30200, 30400, 30800, 31000] (ob := (True ∧ True ∧ True)) (st' := (⟨128, [(2, [], .v (.c (.ptr 30000 0))), (5, [], .v (.c (.ptr 30001 0))), (6, [], .v (.c (.ptr 30200 0))), (7, [], .v (.c (.p (.int .i64) many))), (8, [], .v (.c (.ptr 30800 0))), (9, [], .v (.c (.p (.int .i64) ways))), (11, [], .v (.c (.p (.int .i64) long))), (89, [], .v (.c (.own 5010))), (90, [], .v (.c (.ptr 30001 0)))], [(5010, [], .arr 3 (.int .i64) w), (30000, [], .box [.nils, .p (.int .i64) (0 : Int)]), (30001, [], .box [.p (.sl (.int .u8)) rv19, .p .bool rv20]), (30200, [], .box [.own 30400, .p (.int .i64) v2]), (30400, [], .arr 87 (.pr (.int .i64) (.pr (.int .i64) (.pr (.int .i64) (.sl (.sl (.int .i64)))))) l6120), (30800, [], .box [.p (.int .i64) v23, .p (.int .i64) v24, .p (.int .i64) v25, .own 31000]), (31000, [], .arr 32 (.sl (.int .i64)) l6163)]⟩ : St)) (by kernel_rfl) ⟨trivial, trivial, trivial⟩ ?_
                                refine awl_conv [.ren 5010 31200] (st' := (⟨128, [(2, [], .v (.c (.ptr 30000 0))), (5, [], .v (.c (.ptr 30001 0))), (6, [], .v (.c (.ptr 30200 0))), (7, [], .v (.c (.p (.int .i64) many))), (8, [], .v (.c (.ptr 30800 0))), (9, [], .v (.c (.p (.int .i64) ways))), (11, [], .v (.c (.p (.int .i64) long))), (89, [], .v (.c (.own 31200))), (90, [], .v (.c (.ptr 30001 0)))], [(31200, [], .arr 3 (.int .i64) w), (30000, [], .box [.nils, .p (.int .i64) (0 : Int)]), (30001, [], .box [.p (.sl (.int .u8)) rv19, .p .bool rv20]), (30200, [], .box [.own 30400, .p (.int .i64) v2]), (30400, [], .arr 87 (.pr (.int .i64) (.pr (.int .i64) (.pr (.int .i64) (.sl (.sl (.int .i64)))))) l6120), (30800, [], .box [.p (.int .i64) v23, .p (.int .i64) v24, .p (.int .i64) v25, .own 31000]), (31000, [], .arr 32 (.sl (.int .i64)) l6163)]⟩ : St)) (by kernel_rfl) ?_
                                refine awl_inlr [2] [31200, 30000, 30001, 30200, 30400, 30800, 31000] [.c (.ptr 30001 0)] [] rfl rfl (by kernel_rfl) rfl (by kernel_rfl) Try.call51 (by kernel_rfl) (by kernel_rfl) Try.func51 rfl rfl (by kernel_rfl) ?_
                                refine aw_conv [] (st' := (⟨38, [(0, [], .v (.c (.ptr 30001 0))), (40, [], .v (.c (.ptr 30000 0))), (43, [], .v (.c (.ptr 30001 0))), (44, [], .v (.c (.ptr 30200 0))), (45, [], .v (.c (.p (.int .i64) many))), (46, [], .v (.c (.ptr 30800 0))), (47, [], .v (.c (.p (.int .i64) ways))), (49, [], .v (.c (.p (.int .i64) long))), (127, [], .v (.c (.own 31200))), (128, [], .v (.c (.ptr 30001 0)))], [(31200, [], .arr 3 (.int .i64) w), (30000, [], .box [.nils, .p (.int .i64) (0 : Int)]), (30001, [], .box [.p (.sl (.int .u8)) rv19, .p .bool rv20]), (30200, [], .box [.own 30400, .p (.int .i64) v2]), (30400, [], .arr 87 (.pr (.int .i64) (.pr (.int .i64) (.pr (.int .i64) (.sl (.sl (.int .i64)))))) l6120), (30800, [], .box [.p (.int .i64) v23, .p (.int .i64) v24, .p (.int .i64) v25, .own 31000]), (31000, [], .arr 32 (.sl (.int .i64)) l6163)]⟩ : St)) (by kernel_rfl) ?_
                                refine withJoinR (σ := Int × (List Int) × Bool) (fun s => (⟨38, [(2, [], .v (.c (.p (.int .i64) s.1))), (40, [], .v (.c (.ptr 30000 0))), (43, [], .v (.c (.ptr 30001 0))), (44, [], .v (.c (.ptr 30200 0))), (45, [], .v (.c (.p (.int .i64) many))), (46, [], .v (.c (.ptr 30800 0))), (47, [], .v (.c (.p (.int .i64) ways))), (49, [], .v (.c (.p (.int .i64) long))), (127, [], .v (.c (.own 31200)))], [(30000, [], .box [.nils, .p (.int .i64) (0 : Int)]), (30001, [], .box [.p (.sl (.int .u8)) s.2.1, .p .bool s.2.2]), (30200, [], .box [.own 30400, .p (.int .i64) v2]), (30400, [], .arr 87 (.pr (.int .i64) (.pr (.int .i64) (.pr (.int .i64) (.sl (.sl (.int .i64)))))) l6120), (30800, [], .box [.p (.int .i64) v23, .p (.int .i64) v24, .p (.int .i64) v25, .own 31000]), (31000, [], .arr 32 (.sl (.int .i64)) l6163), (31200, [], .arr 3 (.int .i64) w)]⟩ : St)) (fun s => VC27_k11 long w X3 s.1 s.2.1 s.2.2) (fun s h => ?_) (fun rest4 => ?_)
                                · obtain ⟨v28, rv21, rv22⟩ := s
                                  have h : VC27_k11 long w X3 v28 rv21 rv22 := h
                                  unfold VC27_k11 at h
                                  refine inlR_n (.v (.c (.p (.int .i64) v28))) (by kernel_rfl) rfl ?_
                                  refine awl_conv [.prune [2, 5, 6, 7, 8, 9, 11, 89, 91] [30000, 30001, 30200, 30400, 30800, 31000, 31200]] (st' := (⟨128, [(2, [], .v (.c (.ptr 30000 0))), (5, [], .v (.c (.ptr 30001 0))), (6, [], .v (.c (.ptr 30200 0))), (7, [], .v (.c (.p (.int .i64) many))), (8, [], .v (.c (.ptr 30800 0))), (9, [], .v (.c (.p (.int .i64) ways))), (11, [], .v (.c (.p (.int .i64) long))), (89, [], .v (.c (.own 31200))), (91, [], .v (.c (.p (.int .i64) v28)))], [(30000, [], .box [.nils, .p (.int .i64) (0 : Int)]), (30001, [], .box [.p (.sl (.int .u8)) rv21, .p .bool rv22]), (30200, [], .box [.own 30400, .p (.int .i64) v2]), (30400, [], .arr 87 (.pr (.int .i64) (.pr (.int .i64) (.pr (.int .i64) (.sl (.sl (.int .i64)))))) l6120), (30800, [], .box [.p (.int .i64) v23, .p (.int .i64) v24, .p (.int .i64) v25, .own 31000]), (31000, [], .arr 32 (.sl (.int .i64)) l6163), (31200, [], .arr 3 (.int .i64) w)]⟩ : St)) (by kernel_rfl) ?_
                                  obtain ⟨o1, h⟩ := h
                                  refine awl_runp 3 [2, 5, 6, 7, 8, 9, 10, 11] [93, 30000, 30001, 30200, 30400, 30800, 31000] (ob := (True ∧ roomN (w.length + [v28].length) ∧ True ∧ True)) (st' := (⟨128, [(2, [], .v (.c (.ptr 30000 0))), (5, [], .v (.c (.ptr 30001 0))), (6, [], .v (.c (.ptr 30200 0))), (7, [], .v (.c (.p (.int .i64) many))), (8, [], .v (.c (.ptr 30800 0))), (9, [], .v (.c (.p (.int .i64) ways))), (10, [], .v (.c (.own 93))), (11, [], .v (.c (.p (.int .i64) long)))], [(93, [], .arr 3 (.int .i64) (w ++ [v28])), (30000, [], .box [.nils, .p (.int .i64) (0 : Int)]), (30001, [], .box [.p (.sl (.int .u8)) rv21, .p .bool rv22]), (30200, [], .box [.own 30400, .p (.int .i64) v2]), (30400, [], .arr 87 (.pr (.int .i64) (.pr (.int .i64) (.pr (.int .i64) (.sl (.sl (.int .i64)))))) l6120), (30800, [], .box [.p (.int .i64) v23, .p (.int .i64) v24, .p (.int .i64) v25, .own 31000]), (31000, [], .arr 32 (.sl (.int .i64)) l6163)]⟩ : St)) (by kernel_rfl) ⟨trivial, o1, trivial, trivial⟩ ?_
                                  refine awl_nil ?_
                                  refine blockQ_n ?_
                                  refine thenQ_n ?_
                                  refine aw_region ?_
                                  obtain ⟨o1, h⟩ := h
                                  refine awl_runp 3 [2, 5, 6, 7, 8, 9, 10, 11] [93, 30000, 30001, 30200, 30400, 30800, 31000] (ob := (True ∧ InR (long - (1 : Int)) ∧ True ∧ True)) (st' := (⟨128, [(2, [], .v (.c (.ptr 30000 0))), (5, [], .v (.c (.ptr 30001 0))), (6, [], .v (.c (.ptr 30200 0))), (7, [], .v (.c (.p (.int .i64) many))), (8, [], .v (.c (.ptr 30800 0))), (9, [], .v (.c (.p (.int .i64) ways))), (10, [], .v (.c (.own 93))), (11, [], .v (.c (.p (.int .i64) (long - (1 : Int)))))], [(93, [], .arr 3 (.int .i64) (w ++ [v28])), (30000, [], .box [.nils, .p (.int .i64) (0 : Int)]), (30001, [], .box [.p (.sl (.int .u8)) rv21, .p .bool rv22]), (30200, [], .box [.own 30400, .p (.int .i64) v2]), (30400, [], .arr 87 (.pr (.int .i64) (.pr (.int .i64) (.pr (.int .i64) (.sl (.sl (.int .i64)))))) l6120), (30800, [], .box [.p (.int .i64) v23, .p (.int .i64) v24, .p (.int .i64) v25, .own 31000]), (31000, [], .arr 32 (.sl (.int .i64)) l6163)]⟩ : St)) (by kernel_rfl) ⟨trivial, o1, trivial, trivial⟩ ?_
                                  refine awl_conv [.ren 93 20093, .ren 20093 5010] (st' := (⟨128, [(2, [], .v (.c (.ptr 30000 0))), (5, [], .v (.c (.ptr 30001 0))), (6, [], .v (.c (.ptr 30200 0))), (7, [], .v (.c (.p (.int .i64) many))), (8, [], .v (.c (.ptr 30800 0))), (9, [], .v (.c (.p (.int .i64) ways))), (10, [], .v (.c (.own 5010))), (11, [], .v (.c (.p (.int .i64) (long - (1 : Int)))))], [(5010, [], .arr 3 (.int .i64) (w ++ [v28])), (30000, [], .box [.nils, .p (.int .i64) (0 : Int)]), (30001, [], .box [.p (.sl (.int .u8)) rv21, .p .bool rv22]), (30200, [], .box [.own 30400, .p (.int .i64) v2]), (30400, [], .arr 87 (.pr (.int .i64) (.pr (.int .i64) (.pr (.int .i64) (.sl (.sl (.int .i64)))))) l6120), (30800, [], .box [.p (.int .i64) v23, .p (.int .i64) v24, .p (.int .i64) v25, .own 31000]), (31000, [], .arr 32 (.sl (.int .i64)) l6163)]⟩ : St)) (by kernel_rfl) ?_
                                  refine awl_nil ?_
                                  exact thenQ_n ⟨((long - (1 : Int)), (w ++ [v28]), rv21, rv22), rfl, h⟩
                                · refine aw_seq ?_
                                  refine aw_region ?_
                                  refine awl_runp 1 [0, 40, 43, 44, 45, 46, 47, 49, 127] [30000, 30001, 30200, 30400, 30800, 31000, 31200] (ob := (True ∧ True)) (st' := (⟨38, [(0, [], .v (.c (.ptr 30001 0))), (40, [], .v (.c (.ptr 30000 0))), (43, [], .v (.c (.ptr 30001 0))), (44, [], .v (.c (.ptr 30200 0))), (45, [], .v (.c (.p (.int .i64) many))), (46, [], .v (.c (.ptr 30800 0))), (47, [], .v (.c (.p (.int .i64) ways))), (49, [], .v (.c (.p (.int .i64) long))), (127, [], .v (.c (.own 31200)))], [(30000, [], .box [.nils, .p (.int .i64) (0 : Int)]), (30001, [], .box [.p (.sl (.int .u8)) rv19, .p .bool rv20]), (30200, [], .box [.own 30400, .p (.int .i64) v2]), (30400, [], .arr 87 (.pr (.int .i64) (.pr (.int .i64) (.pr (.int .i64) (.sl (.sl (.int .i64)))))) l6120), (30800, [], .box [.p (.int .i64) v23, .p (.int .i64) v24, .p (.int .i64) v25, .own 31000]), (31000, [], .arr 32 (.sl (.int .i64)) l6163), (31200, [], .arr 3 (.int .i64) w)]⟩ : St)) (by kernel_rfl) ⟨trivial, trivial⟩ ?_
                                  refine awl_nil ?_
                                  refine thenQ_n ?_
                                  refine aw_seq ?_
                                  refine aw_seq ?_
                                  refine aw_region ?_
                                  refine awl_runp 6 [0, 9, 40, 43, 44, 45, 46, 47, 49, 127] [30000, 30001, 30200, 30400, 30800, 31000, 31200] (ob := (True ∧ True ∧ True ∧ True ∧ True ∧ True ∧ True)) (st' := (⟨38, [(0, [], .v (.c (.ptr 30001 0))), (9, [], .v (.c (.p .bool (decide ((rv19.length : Int) < (2 : Int)))))), (40, [], .v (.c (.ptr 30000 0))), (43, [], .v (.c (.ptr 30001 0))), (44, [], .v (.c (.ptr 30200 0))), (45, [], .v (.c (.p (.int .i64) many))), (46, [], .v (.c (.ptr 30800 0))), (47, [], .v (.c (.p (.int .i64) ways))), (49, [], .v (.c (.p (.int .i64) long))), (127, [], .v (.c (.own 31200)))], [(30000, [], .box [.nils, .p (.int .i64) (0 : Int)]), (30001, [], .box [.p (.sl (.int .u8)) rv19, .p .bool rv20]), (30200, [], .box [.own 30400, .p (.int .i64) v2]), (30400, [], .arr 87 (.pr (.int .i64) (.pr (.int .i64) (.pr (.int .i64) (.sl (.sl (.int .i64)))))) l6120), (30800, [], .box [.p (.int .i64) v23, .p (.int .i64) v24, .p (.int .i64) v25, .own 31000]), (31000, [], .arr 32 (.sl (.int .i64)) l6163), (31200, [], .arr 3 (.int .i64) w)]⟩ : St)) (by kernel_rfl) ⟨trivial, trivial, trivial, trivial, trivial, trivial, trivial⟩ ?_
                                  refine awl_nil ?_
                                  refine thenQ_n ?_
                                  refine aw_cond (b := (decide ((rv19.length : Int) < (2 : Int)))) (by kernel_rfl) (fun hb => ?_) (fun hb => ?_)
                                  · have h := h.1 hb
                                    refine aw_seq ?_
                                    refine aw_region ?_
                                    refine awl_runp 4 [40, 43, 44, 45, 46, 47, 49, 127] [30000, 30001, 30200, 30400, 30800, 31000, 31200] (ob := (True ∧ True ∧ True ∧ True ∧ True)) (st' := (⟨38, [(40, [], .v (.c (.ptr 30000 0))), (43, [], .v (.c (.ptr 30001 0))), (44, [], .v (.c (.ptr 30200 0))), (45, [], .v (.c (.p (.int .i64) many))), (46, [], .v (.c (.ptr 30800 0))), (47, [], .v (.c (.p (.int .i64) ways))), (49, [], .v (.c (.p (.int .i64) long))), (127, [], .v (.c (.own 31200)))], [(30000, [], .box [.nils, .p (.int .i64) (0 : Int)]), (30001, [], .box [.p (.sl (.int .u8)) rv19, .p .bool true]), (30200, [], .box [.own 30400, .p (.int .i64) v2]), (30400, [], .arr 87 (.pr (.int .i64) (.pr (.int .i64) (.pr (.int .i64) (.sl (.sl (.int .i64)))))) l6120), (30800, [], .box [.p (.int .i64) v23, .p (.int .i64) v24, .p (.int .i64) v25, .own 31000]), (31000, [], .arr 32 (.sl (.int .i64)) l6163), (31200, [], .arr 3 (.int .i64) w)]⟩ : St)) (by kernel_rfl) ⟨trivial, trivial, trivial, trivial, trivial⟩ ?_
                                    refine awl_nil ?_
                                    refine thenQ_n ?_
                                    refine aw_seq ?_
                                    refine aw_region ?_
                                    refine awl_runp 1 [2, 40, 43, 44, 45, 46, 47, 49, 127] [30000, 30001, 30200, 30400, 30800, 31000, 31200] (ob := (True ∧ True)) (st' := (⟨38, [(2, [], .v (.c (.p (.int .i64) (0 : Int)))), (40, [], .v (.c (.ptr 30000 0))), (43, [], .v (.c (.ptr 30001 0))), (44, [], .v (.c (.ptr 30200 0))), (45, [], .v (.c (.p (.int .i64) many))), (46, [], .v (.c (.ptr 30800 0))), (47, [], .v (.c (.p (.int .i64) ways))), (49, [], .v (.c (.p (.int .i64) long))), (127, [], .v (.c (.own 31200)))], [(30000, [], .box [.nils, .p (.int .i64) (0 : Int)]), (30001, [], .box [.p (.sl (.int .u8)) rv19, .p .bool true]), (30200, [], .box [.own 30400, .p (.int .i64) v2]), (30400, [], .arr 87 (.pr (.int .i64) (.pr (.int .i64) (.pr (.int .i64) (.sl (.sl (.int .i64)))))) l6120), (30800, [], .box [.p (.int .i64) v23, .p (.int .i64) v24, .p (.int .i64) v25, .own 31000]), (31000, [], .arr 32 (.sl (.int .i64)) l6163), (31200, [], .arr 3 (.int .i64) w)]⟩ : St)) (by kernel_rfl) ⟨trivial, trivial⟩ ?_
                                    refine awl_nil ?_
                                    refine thenQ_n ?_
                                    refine aw_ret ?_
                                    refine thenQ_r ?_
                                    exact rest4 ((0 : Int), rv19, true) h
                                  · have h := h.2 hb
                                    refine aw_skip ?_
                                    refine thenQ_n ?_
                                    refine aw_seq ?_
                                    refine awd_begin [] (by kernel_rfl) ?_
                                    obtain ⟨o1, o2, o3, o4, h⟩ := h
                                    refine awd_runp (by kernel_rfl) [0, 1, 2, 3, 4, 5, 6, 7, 8, 9, 10, 11, 12, 13, 14, 15, 16] [0, 3, 40, 43, 44, 45, 46, 47, 49, 127] [30000, 30001, 30200, 30400, 30800, 31000, 31200] (ob := (True ∧ True ∧ True ∧ True ∧ inIdx (0 : Int) rv19.length ∧ True ∧ True ∧ True ∧ True ∧ True ∧ True ∧ inIdx (1 : Int) rv19.length ∧ True ∧ True ∧ 0 ≤ (8 : Int) ∧ InR ((rv19.getD ((0 : Int)).toNat (0 : Int)) + (bShl .i64 (rv19.getD ((1 : Int)).toNat (0 : Int)) (8 : Int))) ∧ True ∧ True)) (done' := [16, 15, 14, 13, 12, 11, 10, 9, 8, 7, 6, 5, 4, 3, 2, 1, 0]) (st' := (⟨38, [(0, [], .v (.c (.ptr 30001 0))), (3, [], .v (.c (.p (.int .i64) ((rv19.getD ((0 : Int)).toNat (0 : Int)) + (bShl .i64 (rv19.getD ((1 : Int)).toNat (0 : Int)) (8 : Int)))))), (40, [], .v (.c (.ptr 30000 0))), (43, [], .v (.c (.ptr 30001 0))), (44, [], .v (.c (.ptr 30200 0))), (45, [], .v (.c (.p (.int .i64) many))), (46, [], .v (.c (.ptr 30800 0))), (47, [], .v (.c (.p (.int .i64) ways))), (49, [], .v (.c (.p (.int .i64) long))), (127, [], .v (.c (.own 31200)))], [(30000, [], .box [.nils, .p (.int .i64) (0 : Int)]), (30001, [], .box [.p (.sl (.int .u8)) rv19, .p .bool rv20]), (30200, [], .box [.own 30400, .p (.int .i64) v2]), (30400, [], .arr 87 (.pr (.int .i64) (.pr (.int .i64) (.pr (.int .i64) (.sl (.sl (.int .i64)))))) l6120), (30800, [], .box [.p (.int .i64) v23, .p (.int .i64) v24, .p (.int .i64) v25, .own 31000]), (31000, [], .arr 32 (.sl (.int .i64)) l6163), (31200, [], .arr 3 (.int .i64) w)]⟩ : St)) (by kernel_rfl) ⟨trivial, trivial, trivial, trivial, o1, trivial, trivial, trivial, trivial, trivial, trivial, o2, trivial, trivial, o3, o4, trivial, trivial⟩ ?_
                                    refine awd_done (by kernel_rfl) ?_
                                    refine thenQ_n ?_
                                    refine aw_seq ?_
                                    refine aw_region ?_
                                    obtain ⟨o1, h⟩ := h
                                    refine awl_runp 9 [3, 40, 43, 44, 45, 46, 47, 49, 127] [30000, 30001, 30200, 30400, 30800, 31000, 31200] (ob := (True ∧ True ∧ True ∧ True ∧ True ∧ (0 ≤ (2 : Int) ∧ (2 : Int) ≤ (rv19.length : Int)) ∧ True ∧ True ∧ True ∧ True)) (st' := (⟨38, [(3, [], .v (.c (.p (.int .i64) ((rv19.getD ((0 : Int)).toNat (0 : Int)) + (bShl .i64 (rv19.getD ((1 : Int)).toNat (0 : Int)) (8 : Int)))))), (40, [], .v (.c (.ptr 30000 0))), (43, [], .v (.c (.ptr 30001 0))), (44, [], .v (.c (.ptr 30200 0))), (45, [], .v (.c (.p (.int .i64) many))), (46, [], .v (.c (.ptr 30800 0))), (47, [], .v (.c (.p (.int .i64) ways))), (49, [], .v (.c (.p (.int .i64) long))), (127, [], .v (.c (.own 31200)))], [(30000, [], .box [.nils, .p (.int .i64) (0 : Int)]), (30001, [], .box [.p (.sl (.int .u8)) (rv19.drop ((2 : Int)).toNat), .p .bool rv20]), (30200, [], .box [.own 30400, .p (.int .i64) v2]), (30400, [], .arr 87 (.pr (.int .i64) (.pr (.int .i64) (.pr (.int .i64) (.sl (.sl (.int .i64)))))) l6120), (30800, [], .box [.p (.int .i64) v23, .p (.int .i64) v24, .p (.int .i64) v25, .own 31000]), (31000, [], .arr 32 (.sl (.int .i64)) l6163), (31200, [], .arr 3 (.int .i64) w)]⟩ : St)) (by kernel_rfl) ⟨trivial, trivial, trivial, trivial, trivial, o1, trivial, trivial, trivial, trivial⟩ ?_
                                    refine awl_nil ?_
                                    refine thenQ_n ?_
                                    refine aw_seq ?_
                                    refine aw_region ?_
                                    refine awl_runp 2 [2, 40, 43, 44, 45, 46, 47, 49, 127] [30000, 30001, 30200, 30400, 30800, 31000, 31200] (ob := (True ∧ True ∧ True)) (st' := (⟨38, [(2, [], .v (.c (.p (.int .i64) ((rv19.getD ((0 : Int)).toNat (0 : Int)) + (bShl .i64 (rv19.getD ((1 : Int)).toNat (0 : Int)) (8 : Int)))))), (40, [], .v (.c (.ptr 30000 0))), (43, [], .v (.c (.ptr 30001 0))), (44, [], .v (.c (.ptr 30200 0))), (45, [], .v (.c (.p (.int .i64) many))), (46, [], .v (.c (.ptr 30800 0))), (47, [], .v (.c (.p (.int .i64) ways))), (49, [], .v (.c (.p (.int .i64) long))), (127, [], .v (.c (.own 31200)))], [(30000, [], .box [.nils, .p (.int .i64) (0 : Int)]), (30001, [], .box [.p (.sl (.int .u8)) (rv19.drop ((2 : Int)).toNat), .p .bool rv20]), (30200, [], .box [.own 30400, .p (.int .i64) v2]), (30400, [], .arr 87 (.pr (.int .i64) (.pr (.int .i64) (.pr (.int .i64) (.sl (.sl (.int .i64)))))) l6120), (30800, [], .box [.p (.int .i64) v23, .p (.int .i64) v24, .p (.int .i64) v25, .own 31000]), (31000, [], .arr 32 (.sl (.int .i64)) l6163), (31200, [], .arr 3 (.int .i64) w)]⟩ : St)) (by kernel_rfl) ⟨trivial, trivial, trivial⟩ ?_
                                    refine awl_nil ?_
                                    refine thenQ_n ?_
                                    refine aw_ret ?_
                                    exact rest4 (((rv19.getD ((0 : Int)).toNat (0 : Int)) + (bShl .i64 (rv19.getD ((1 : Int)).toNat (0 : Int)) (8 : Int))), (rv19.drop ((2 : Int)).toNat), rv20) h
                              · have h := h.2 hb
                                refine aw_conv [.prune [2, 5, 6, 7, 8, 9, 10] [5010, 30000, 30001, 30200, 30400, 30800, 31000]] (st' := (⟨128, [(2, [], .v (.c (.ptr 30000 0))), (5, [], .v (.c (.ptr 30001 0))), (6, [], .v (.c (.ptr 30200 0))), (7, [], .v (.c (.p (.int .i64) many))), (8, [], .v (.c (.ptr 30800 0))), (9, [], .v (.c (.p (.int .i64) ways))), (10, [], .v (.c (.own 5010)))], [(5010, [], .arr 3 (.int .i64) w), (30000, [], .box [.nils, .p (.int .i64) (0 : Int)]), (30001, [], .box [.p (.sl (.int .u8)) rv19, .p .bool rv20]), (30200, [], .box [.own 30400, .p (.int .i64) v2]), (30400, [], .arr 87 (.pr (.int .i64) (.pr (.int .i64) (.pr (.int .i64) (.sl (.sl (.int .i64)))))) l6120), (30800, [], .box [.p (.int .i64) v23, .p (.int .i64) v24, .p (.int .i64) v25, .own 31000]), (31000, [], .arr 32 (.sl (.int .i64)) l6163)]⟩ : St)) (by kernel_rfl) ?_
                                refine aw_exit ?_
                                refine thenQ_x ?_
                                refine thenQ_x ?_
                                refine blockQ_hit ?_
                                exact rest3 (w, rv19, rv20) h
                          · refine aw_seq ?_
                            refine aw_region ?_
                            refine awl_runp 1 [0, 40, 43, 44, 45, 46, 47, 48] [30000, 30001, 30200, 30400, 30800, 31000] (ob := (True ∧ True)) (st' := (⟨38, [(0, [], .v (.c (.ptr 30001 0))), (40, [], .v (.c (.ptr 30000 0))), (43, [], .v (.c (.ptr 30001 0))), (44, [], .v (.c (.ptr 30200 0))), (45, [], .v (.c (.p (.int .i64) many))), (46, [], .v (.c (.ptr 30800 0))), (47, [], .v (.c (.p (.int .i64) ways))), (48, [], .v (.c (.nils)))], [(30000, [], .box [.nils, .p (.int .i64) (0 : Int)]), (30001, [], .box [.p (.sl (.int .u8)) rv15, .p .bool rv16]), (30200, [], .box [.own 30400, .p (.int .i64) v2]), (30400, [], .arr 87 (.pr (.int .i64) (.pr (.int .i64) (.pr (.int .i64) (.sl (.sl (.int .i64)))))) l6120), (30800, [], .box [.p (.int .i64) v23, .p (.int .i64) v24, .p (.int .i64) v25, .own 31000]), (31000, [], .arr 32 (.sl (.int .i64)) l6163)]⟩ : St)) (by kernel_rfl) ⟨trivial, trivial⟩ ?_
                            refine awl_nil ?_
                            refine thenQ_n ?_
                            refine aw_seq ?_
                            refine aw_seq ?_
                            refine aw_region ?_
                            refine awl_runp 6 [0, 9, 40, 43, 44, 45, 46, 47, 48] [30000, 30001, 30200, 30400, 30800, 31000] (ob := (True ∧ True ∧ True ∧ True ∧ True ∧ True ∧ True)) (st' := (⟨38, [(0, [], .v (.c (.ptr 30001 0))), (9, [], .v (.c (.p .bool (decide ((rv15.length : Int) < (2 : Int)))))), (40, [], .v (.c (.ptr 30000 0))), (43, [], .v (.c (.ptr 30001 0))), (44, [], .v (.c (.ptr 30200 0))), (45, [], .v (.c (.p (.int .i64) many))), (46, [], .v (.c (.ptr 30800 0))), (47, [], .v (.c (.p (.int .i64) ways))), (48, [], .v (.c (.nils)))], [(30000, [], .box [.nils, .p (.int .i64) (0 : Int)]), (30001, [], .box [.p (.sl (.int .u8)) rv15, .p .bool rv16]), (30200, [], .box [.own 30400, .p (.int .i64) v2]), (30400, [], .arr 87 (.pr (.int .i64) (.pr (.int .i64) (.pr (.int .i64) (.sl (.sl (.int .i64)))))) l6120), (30800, [], .box [.p (.int .i64) v23, .p (.int .i64) v24, .p (.int .i64) v25, .own 31000]), (31000, [], .arr 32 (.sl (.int .i64)) l6163)]⟩ : St)) (by kernel_rfl) ⟨trivial, trivial, trivial, trivial, trivial, trivial, trivial⟩ ?_
                            refine awl_nil ?_
                            refine thenQ_n ?_
                            refine aw_cond (b := (decide ((rv15.length : Int) < (2 : Int)))) (by kernel_rfl) (fun hb => ?_) (fun hb => ?_)
                            · have h := h.1 hb
                              refine aw_seq ?_
                              refine aw_region ?_
                              refine awl_runp 4 [40, 43, 44, 45, 46, 47, 48] [30000, 30001, 30200, 30400, 30800, 31000] (ob := (True ∧ True ∧ True ∧ True ∧ True)) (st' := (⟨38, [(40, [], .v (.c (.ptr 30000 0))), (43, [], .v (.c (.ptr 30001 0))), (44, [], .v (.c (.ptr 30200 0))), (45, [], .v (.c (.p (.int .i64) many))), (46, [], .v (.c (.ptr 30800 0))), (47, [], .v (.c (.p (.int .i64) ways))), (48, [], .v (.c (.nils)))], [(30000, [], .box [.nils, .p (.int .i64) (0 : Int)]), (30001, [], .box [.p (.sl (.int .u8)) rv15, .p .bool true]), (30200, [], .box [.own 30400, .p (.int .i64) v2]), (30400, [], .arr 87 (.pr (.int .i64) (.pr (.int .i64) (.pr (.int .i64) (.sl (.sl (.int .i64)))))) l6120), (30800, [], .box [.p (.int .i64) v23, .p (.int .i64) v24, .p (.int .i64) v25, .own 31000]), (31000, [], .arr 32 (.sl (.int .i64)) l6163)]⟩ : St)) (by kernel_rfl) ⟨trivial, trivial, trivial, trivial, trivial⟩ ?_
                              refine awl_nil ?_
                              refine thenQ_n ?_
                              refine aw_seq ?_
                              refine aw_region ?_
                              refine awl_runp 1 [2, 40, 43, 44, 45, 46, 47, 48] [30000, 30001, 30200, 30400, 30800, 31000] (ob := (True ∧ True)) (st' := (⟨38, [(2, [], .v (.c (.p (.int .i64) (0 : Int)))), (40, [], .v (.c (.ptr 30000 0))), (43, [], .v (.c (.ptr 30001 0))), (44, [], .v (.c (.ptr 30200 0))), (45, [], .v (.c (.p (.int .i64) many))), (46, [], .v (.c (.ptr 30800 0))), (47, [], .v (.c (.p (.int .i64) ways))), (48, [], .v (.c (.nils)))], [(30000, [], .box [.nils, .p (.int .i64) (0 : Int)]), (30001, [], .box [.p (.sl (.int .u8)) rv15, .p .bool true]), (30200, [], .box [.own 30400, .p (.int .i64) v2]), (30400, [], .arr 87 (.pr (.int .i64) (.pr (.int .i64) (.pr (.int .i64) (.sl (.sl (.int .i64)))))) l6120), (30800, [], .box [.p (.int .i64) v23, .p (.int .i64) v24, .p (.int .i64) v25, .own 31000]), (31000, [], .arr 32 (.sl (.int .i64)) l6163)]⟩ : St)) (by kernel_rfl) ⟨trivial, trivial⟩ ?_
                              refine awl_nil ?_
                              refine thenQ_n ?_
                              refine aw_ret ?_
                              refine thenQ_r ?_
                              exact rest5 ((0 : Int), rv15, true) h
                            · have h := h.2 hb
                              refine aw_skip ?_
                              refine thenQ_n ?_
                              refine aw_seq ?_
                              refine awd_begin [] (by kernel_rfl) ?_
                              obtain ⟨o1, o2, o3, o4, h⟩ := h
                              refine awd_runp (by kernel_rfl) [0, 1, 2, 3, 4, 5, 6, 7, 8, 9, 10, 11, 12, 13, 14, 15, 16] [0, 3, 40, 43, 44, 45, 46, 47, 48] [30000, 30001, 30200, 30400, 30800, 31000] (ob := (True ∧ True ∧ True ∧ True ∧ inIdx (0 : Int) rv15.length ∧ True ∧ True ∧ True ∧ True ∧ True ∧ True ∧ inIdx (1 : Int) rv15.length ∧ True ∧ True ∧ 0 ≤ (8 : Int) ∧ InR ((rv15.getD ((0 : Int)).toNat (0 : Int)) + (bShl .i64 (rv15.getD ((1 : Int)).toNat (0 : Int)) (8 : Int))) ∧ True ∧ True)) (done' := [16, 15, 14, 13, 12, 11, 10, 9, 8, 7, 6, 5, 4, 3, 2, 1, 0]) (st' := (⟨38, [(0, [], .v (.c (.ptr 30001 0))), (3, [], .v (.c (.p (.int .i64) ((rv15.getD ((0 : Int)).toNat (0 : Int)) + (bShl .i64 (rv15.getD ((1 : Int)).toNat (0 : Int)) (8 : Int)))))), (40, [], .v (.c (.ptr 30000 0))), (43, [], .v (.c (.ptr 30001 0))), (44, [], .v (.c (.ptr 30200 0))), (45, [], .v (.c (.p (.int .i64) many))), (46, [], .v (.c (.ptr 30800 0))), (47, [], .v (.c (.p (.int .i64) ways))), (48, [], .v (.c (.nils)))], [(30000, [], .box [.nils, .p (.int .i64) (0 : Int)]), (30001, [], .box [.p (.sl (.int .u8)) rv15, .p .bool rv16]), (30200, [], .box [.own 30400, .p (.int .i64) v2]), (30400, [], .arr 87 (.pr (.int .i64) (.pr (.int .i64) (.pr (.int .i64) (.sl (.sl (.int .i64)))))) l6120), (30800, [], .box [.p (.int .i64) v23, .p (.int .i64) v24, .p (.int .i64) v25, .own 31000]), (31000, [], .arr 32 (.sl (.int .i64)) l6163)]⟩ : St)) (by kernel_rfl) ⟨trivial, trivial, trivial, trivial, o1, trivial, trivial, trivial, trivial, trivial, trivial, o2, trivial, trivial, o3, o4, trivial, trivial⟩ ?_
                              refine awd_done (by kernel_rfl) ?_
                              refine thenQ_n ?_
                              refine aw_seq ?_
                              refine aw_region ?_
                              obtain ⟨o1, h⟩ := h
                              refine awl_runp 9 [3, 40, 43, 44, 45, 46, 47, 48] [30000, 30001, 30200, 30400, 30800, 31000] (ob := (True ∧ True ∧ True ∧ True ∧ True ∧ (0 ≤ (2 : Int) ∧ (2 : Int) ≤ (rv15.length : Int)) ∧ True ∧ True ∧ True ∧ True)) (st' := (⟨38, [(3, [], .v (.c (.p (.int .i64) ((rv15.getD ((0 : Int)).toNat (0 : Int)) + (bShl .i64 (rv15.getD ((1 : Int)).toNat (0 : Int)) (8 : Int)))))), (40, [], .v (.c (.ptr 30000 0))), (43, [], .v (.c (.ptr 30001 0))), (44, [], .v (.c (.ptr 30200 0))), (45, [], .v (.c (.p (.int .i64) many))), (46, [], .v (.c (.ptr 30800 0))), (47, [], .v (.c (.p (.int .i64) ways))), (48, [], .v (.c (.nils)))], [(30000, [], .box [.nils, .p (.int .i64) (0 : Int)]), (30001, [], .box [.p (.sl (.int .u8)) (rv15.drop ((2 : Int)).toNat), .p .bool rv16]), (30200, [], .box [.own 30400, .p (.int .i64) v2]), (30400, [], .arr 87 (.pr (.int .i64) (.pr (.int .i64) (.pr (.int .i64) (.sl (.sl (.int .i64)))))) l6120), (30800, [], .box [.p (.int .i64) v23, .p (.int .i64) v24, .p (.int .i64) v25, .own 31000]), (31000, [], .arr 32 (.sl (.int .i64)) l6163)]⟩ : St)) (by kernel_rfl) ⟨trivial, trivial, trivial, trivial, trivial, o1, trivial, trivial, trivial, trivial⟩ ?_
                              refine awl_nil ?_
                              refine thenQ_n ?_
                              refine aw_seq ?_
                              refine aw_region ?_
                              refine awl_runp 2 [2, 40, 43, 44, 45, 46, 47, 48] [30000, 30001, 30200, 30400, 30800, 31000] (ob := (True ∧ True ∧ True)) (st' := (⟨38, [(2, [], .v (.c (.p (.int .i64) ((rv15.getD ((0 : Int)).toNat (0 : Int)) + (bShl .i64 (rv15.getD ((1 : Int)).toNat (0 : Int)) (8 : Int)))))), (40, [], .v (.c (.ptr 30000 0))), (43, [], .v (.c (.ptr 30001 0))), (44, [], .v (.c (.ptr 30200 0))), (45, [], .v (.c (.p (.int .i64) many))), (46, [], .v (.c (.ptr 30800 0))), (47, [], .v (.c (.p (.int .i64) ways))), (48, [], .v (.c (.nils)))], [(30000, [], .box [.nils, .p (.int .i64) (0 : Int)]), (30001, [], .box [.p (.sl (.int .u8)) (rv15.drop ((2 : Int)).toNat), .p .bool rv16]), (30200, [], .box [.own 30400, .p (.int .i64) v2]), (30400, [], .arr 87 (.pr (.int .i64) (.pr (.int .i64) (.pr (.int .i64) (.sl (.sl (.int .i64)))))) l6120), (30800, [], .box [.p (.int .i64) v23, .p (.int .i64) v24, .p (.int .i64) v25, .own 31000]), (31000, [], .arr 32 (.sl (.int .i64)) l6163)]⟩ : St)) (by kernel_rfl) ⟨trivial, trivial, trivial⟩ ?_
                              refine awl_nil ?_
                              refine thenQ_n ?_
                              refine aw_ret ?_
                              exact rest5 (((rv15.getD ((0 : Int)).toNat (0 : Int)) + (bShl .i64 (rv15.getD ((1 : Int)).toNat (0 : Int)) (8 : Int))), (rv15.drop ((2 : Int)).toNat), rv16) h
                        · have h := h.2 hb
                          refine aw_conv [.prune [2, 5, 6, 7, 8] [6163, 30000, 30001, 30200, 30400, 30800]] (st' := (⟨128, [(2, [], .v (.c (.ptr 30000 0))), (5, [], .v (.c (.ptr 30001 0))), (6, [], .v (.c (.ptr 30200 0))), (7, [], .v (.c (.p (.int .i64) many))), (8, [], .v (.c (.ptr 30800 0)))], [(6163, [], .arr 32 (.sl (.int .i64)) l6163), (30000, [], .box [.nils, .p (.int .i64) (0 : Int)]), (30001, [], .box [.p (.sl (.int .u8)) rv15, .p .bool rv16]), (30200, [], .box [.own 30400, .p (.int .i64) v2]), (30400, [], .arr 87 (.pr (.int .i64) (.pr (.int .i64) (.pr (.int .i64) (.sl (.sl (.int .i64)))))) l6120), (30800, [], .box [.p (.int .i64) v23, .p (.int .i64) v24, .p (.int .i64) v25, .own 6163])]⟩ : St)) (by kernel_rfl) ?_
                          refine aw_exit ?_
                          refine thenQ_x ?_
                          refine thenQ_x ?_
                          refine blockQ_hit ?_
                          exact rest2 (l6163, rv15, rv16) h
                    · refine aw_seq ?_
                      refine aw_region ?_
                      refine awl_runp 1 [0, 40, 43, 44, 45, 46] [30000, 30001, 30200, 30400, 30800] (ob := (True ∧ True)) (st' := (⟨38, [(0, [], .v (.c (.ptr 30001 0))), (40, [], .v (.c (.ptr 30000 0))), (43, [], .v (.c (.ptr 30001 0))), (44, [], .v (.c (.ptr 30200 0))), (45, [], .v (.c (.p (.int .i64) many))), (46, [], .v (.c (.ptr 30800 0)))], [(30000, [], .box [.nils, .p (.int .i64) (0 : Int)]), (30001, [], .box [.p (.sl (.int .u8)) rv11, .p .bool rv12]), (30200, [], .box [.own 30400, .p (.int .i64) v2]), (30400, [], .arr 87 (.pr (.int .i64) (.pr (.int .i64) (.pr (.int .i64) (.sl (.sl (.int .i64)))))) l6120), (30800, [], .box [.p (.int .i64) v23, .p (.int .i64) v24, .p (.int .i64) v25, .nils])]⟩ : St)) (by kernel_rfl) ⟨trivial, trivial⟩ ?_
                      refine awl_nil ?_
                      refine thenQ_n ?_
                      refine aw_seq ?_
                      refine aw_seq ?_
                      refine aw_region ?_
                      refine awl_runp 6 [0, 9, 40, 43, 44, 45, 46] [30000, 30001, 30200, 30400, 30800] (ob := (True ∧ True ∧ True ∧ True ∧ True ∧ True ∧ True)) (st' := (⟨38, [(0, [], .v (.c (.ptr 30001 0))), (9, [], .v (.c (.p .bool (decide ((rv11.length : Int) < (2 : Int)))))), (40, [], .v (.c (.ptr 30000 0))), (43, [], .v (.c (.ptr 30001 0))), (44, [], .v (.c (.ptr 30200 0))), (45, [], .v (.c (.p (.int .i64) many))), (46, [], .v (.c (.ptr 30800 0)))], [(30000, [], .box [.nils, .p (.int .i64) (0 : Int)]), (30001, [], .box [.p (.sl (.int .u8)) rv11, .p .bool rv12]), (30200, [], .box [.own 30400, .p (.int .i64) v2]), (30400, [], .arr 87 (.pr (.int .i64) (.pr (.int .i64) (.pr (.int .i64) (.sl (.sl (.int .i64)))))) l6120), (30800, [], .box [.p (.int .i64) v23, .p (.int .i64) v24, .p (.int .i64) v25, .nils])]⟩ : St)) (by kernel_rfl) ⟨trivial, trivial, trivial, trivial, trivial, trivial, trivial⟩ ?_
                      refine awl_nil ?_
                      refine thenQ_n ?_
                      refine aw_cond (b := (decide ((rv11.length : Int) < (2 : Int)))) (by kernel_rfl) (fun hb => ?_) (fun hb => ?_)
                      · have h := h.1 hb
                        refine aw_seq ?_
                        refine aw_region ?_
                        refine awl_runp 4 [40, 43, 44, 45, 46] [30000, 30001, 30200, 30400, 30800] (ob := (True ∧ True ∧ True ∧ True ∧ True)) (st' := (⟨38, [(40, [], .v (.c (.ptr 30000 0))), (43, [], .v (.c (.ptr 30001 0))), (44, [], .v (.c (.ptr 30200 0))), (45, [], .v (.c (.p (.int .i64) many))), (46, [], .v (.c (.ptr 30800 0)))], [(30000, [], .box [.nils, .p (.int .i64) (0 : Int)]), (30001, [], .box [.p (.sl (.int .u8)) rv11, .p .bool true]), (30200, [], .box [.own 30400, .p (.int .i64) v2]), (30400, [], .arr 87 (.pr (.int .i64) (.pr (.int .i64) (.pr (.int .i64) (.sl (.sl (.int .i64)))))) l6120), (30800, [], .box [.p (.int .i64) v23, .p (.int .i64) v24, .p (.int .i64) v25, .nils])]⟩ : St)) (by kernel_rfl) ⟨trivial, trivial, trivial, trivial, trivial⟩ ?_
                        refine awl_nil ?_
                        refine thenQ_n ?_
                        refine aw_seq ?_
                        refine aw_region ?_
                        refine awl_runp 1 [2, 40, 43, 44, 45, 46] [30000, 30001, 30200, 30400, 30800] (ob := (True ∧ True)) (st' := (⟨38, [(2, [], .v (.c (.p (.int .i64) (0 : Int)))), (40, [], .v (.c (.ptr 30000 0))), (43, [], .v (.c (.ptr 30001 0))), (44, [], .v (.c (.ptr 30200 0))), (45, [], .v (.c (.p (.int .i64) many))), (46, [], .v (.c (.ptr 30800 0)))], [(30000, [], .box [.nils, .p (.int .i64) (0 : Int)]), (30001, [], .box [.p (.sl (.int .u8)) rv11, .p .bool true]), (30200, [], .box [.own 30400, .p (.int .i64) v2]), (30400, [], .arr 87 (.pr (.int .i64) (.pr (.int .i64) (.pr (.int .i64) (.sl (.sl (.int .i64)))))) l6120), (30800, [], .box [.p (.int .i64) v23, .p (.int .i64) v24, .p (.int .i64) v25, .nils])]⟩ : St)) (by kernel_rfl) ⟨trivial, trivial⟩ ?_
                        refine awl_nil ?_
                        refine thenQ_n ?_
                        refine aw_ret ?_
                        refine thenQ_r ?_
                        exact rest6 ((0 : Int), rv11, true) h
                      · have h := h.2 hb
                        refine aw_skip ?_
                        refine thenQ_n ?_
                        refine aw_seq ?_
                        refine awd_begin [] (by kernel_rfl) ?_
                        obtain ⟨o1, o2, o3, o4, h⟩ := h
                        refine awd_runp (by kernel_rfl) [0, 1, 2, 3, 4, 5, 6, 7, 8, 9, 10, 11, 12, 13, 14, 15, 16] [0, 3, 40, 43, 44, 45, 46] [30000, 30001, 30200, 30400, 30800] (ob := (True ∧ True ∧ True ∧ True ∧ inIdx (0 : Int) rv11.length ∧ True ∧ True ∧ True ∧ True ∧ True ∧ True ∧ inIdx (1 : Int) rv11.length ∧ True ∧ True ∧ 0 ≤ (8 : Int) ∧ InR ((rv11.getD ((0 : Int)).toNat (0 : Int)) + (bShl .i64 (rv11.getD ((1 : Int)).toNat (0 : Int)) (8 : Int))) ∧ True ∧ True)) (done' := [16, 15, 14, 13, 12, 11, 10, 9, 8, 7, 6, 5, 4, 3, 2, 1, 0]) (st' := (⟨38, [(0, [], .v (.c (.ptr 30001 0))), (3, [], .v (.c (.p (.int .i64) ((rv11.getD ((0 : Int)).toNat (0 : Int)) + (bShl .i64 (rv11.getD ((1 : Int)).toNat (0 : Int)) (8 : Int)))))), (40, [], .v (.c (.ptr 30000 0))), (43, [], .v (.c (.ptr 30001 0))), (44, [], .v (.c (.ptr 30200 0))), (45, [], .v (.c (.p (.int .i64) many))), (46, [], .v (.c (.ptr 30800 0)))], [(30000, [], .box [.nils, .p (.int .i64) (0 : Int)]), (30001, [], .box [.p (.sl (.int .u8)) rv11, .p .bool rv12]), (30200, [], .box [.own 30400, .p (.int .i64) v2]), (30400, [], .arr 87 (.pr (.int .i64) (.pr (.int .i64) (.pr (.int .i64) (.sl (.sl (.int .i64)))))) l6120), (30800, [], .box [.p (.int .i64) v23, .p (.int .i64) v24, .p (.int .i64) v25, .nils])]⟩ : St)) (by kernel_rfl) ⟨trivial, trivial, trivial, trivial, o1, trivial, trivial, trivial, trivial, trivial, trivial, o2, trivial, trivial, o3, o4, trivial, trivial⟩ ?_
                        refine awd_done (by kernel_rfl) ?_
                        refine thenQ_n ?_
                        refine aw_seq ?_
                        refine aw_region ?_
                        obtain ⟨o1, h⟩ := h
                        refine awl_runp 9 [3, 40, 43, 44, 45, 46] [30000, 30001, 30200, 30400, 30800] (ob := (True ∧ True ∧ True ∧ True ∧ True ∧ (0 ≤ (2 : Int) ∧ (2 : Int) ≤ (rv11.length : Int)) ∧ True ∧ True ∧ True ∧ True)) (st' := (⟨38, [(3, [], .v (.c (.p (.int .i64) ((rv11.getD ((0 : Int)).toNat (0 : Int)) + (bShl .i64 (rv11.getD ((1 : Int)).toNat (0 : Int)) (8 : Int)))))), (40, [], .v (.c (.ptr 30000 0))), (43, [], .v (.c (.ptr 30001 0))), (44, [], .v (.c (.ptr 30200 0))), (45, [], .v (.c (.p (.int .i64) many))), (46, [], .v (.c (.ptr 30800 0)))], [(30000, [], .box [.nils, .p (.int .i64) (0 : Int)]), (30001, [], .box [.p (.sl (.int .u8)) (rv11.drop ((2 : Int)).toNat), .p .bool rv12]), (30200, [], .box [.own 30400, .p (.int .i64) v2]), (30400, [], .arr 87 (.pr (.int .i64) (.pr (.int .i64) (.pr (.int .i64) (.sl (.sl (.int .i64)))))) l6120), (30800, [], .box [.p (.int .i64) v23, .p (.int .i64) v24, .p (.int .i64) v25, .nils])]⟩ : St)) (by kernel_rfl) ⟨trivial, trivial, trivial, trivial, trivial, o1, trivial, trivial, trivial, trivial⟩ ?_
                        refine awl_nil ?_
                        refine thenQ_n ?_
                        refine aw_seq ?_
                        refine aw_region ?_
                        refine awl_runp 2 [2, 40, 43, 44, 45, 46] [30000, 30001, 30200, 30400, 30800] (ob := (True ∧ True ∧ True)) (st' := (⟨38, [(2, [], .v (.c (.p (.int .i64) ((rv11.getD ((0 : Int)).toNat (0 : Int)) + (bShl .i64 (rv11.getD ((1 : Int)).toNat (0 : Int)) (8 : Int)))))), (40, [], .v (.c (.ptr 30000 0))), (43, [], .v (.c (.ptr 30001 0))), (44, [], .v (.c (.ptr 30200 0))), (45, [], .v (.c (.p (.int .i64) many))), (46, [], .v (.c (.ptr 30800 0)))], [(30000, [], .box [.nils, .p (.int .i64) (0 : Int)]), (30001, [], .box [.p (.sl (.int .u8)) (rv11.drop ((2 : Int)).toNat), .p .bool rv12]), (30200, [], .box [.own 30400, .p (.int .i64) v2]), (30400, [], .arr 87 (.pr (.int .i64) (.pr (.int .i64) (.pr (.int .i64) (.sl (.sl (.int .i64)))))) l6120), (30800, [], .box [.p (.int .i64) v23, .p (.int .i64) v24, .p (.int .i64) v25, .nils])]⟩ : St)) (by kernel_rfl) ⟨trivial, trivial, trivial⟩ ?_
                        refine awl_nil ?_
                        refine thenQ_n ?_
                        refine aw_ret ?_
                        exact rest6 (((rv11.getD ((0 : Int)).toNat (0 : Int)) + (bShl .i64 (rv11.getD ((1 : Int)).toNat (0 : Int)) (8 : Int))), (rv11.drop ((2 : Int)).toNat), rv12) h
                  · refine aw_seq ?_
                    refine aw_region ?_
                    refine awl_runp 1 [0, 40, 43, 44, 45, 95, 97] [30000, 30001, 30200, 30400] (ob := (True ∧ True)) (st' := (⟨38, [(0, [], .v (.c (.ptr 30001 0))), (40, [], .v (.c (.ptr 30000 0))), (43, [], .v (.c (.ptr 30001 0))), (44, [], .v (.c (.ptr 30200 0))), (45, [], .v (.c (.p (.int .i64) many))), (95, [], .v (.c (.p (.int .i64) v23))), (97, [], .v (.c (.p (.int .i64) v24)))], [(30000, [], .box [.nils, .p (.int .i64) (0 : Int)]), (30001, [], .box [.p (.sl (.int .u8)) rv9, .p .bool rv10]), (30200, [], .box [.own 30400, .p (.int .i64) v2]), (30400, [], .arr 87 (.pr (.int .i64) (.pr (.int .i64) (.pr (.int .i64) (.sl (.sl (.int .i64)))))) l6120)]⟩ : St)) (by kernel_rfl) ⟨trivial, trivial⟩ ?_
                    refine awl_nil ?_
                    refine thenQ_n ?_
                    refine aw_seq ?_
                    refine aw_seq ?_
                    refine aw_region ?_
                    refine awl_runp 6 [0, 9, 40, 43, 44, 45, 95, 97] [30000, 30001, 30200, 30400] (ob := (True ∧ True ∧ True ∧ True ∧ True ∧ True ∧ True)) (st' := (⟨38, [(0, [], .v (.c (.ptr 30001 0))), (9, [], .v (.c (.p .bool (decide ((rv9.length : Int) < (2 : Int)))))), (40, [], .v (.c (.ptr 30000 0))), (43, [], .v (.c (.ptr 30001 0))), (44, [], .v (.c (.ptr 30200 0))), (45, [], .v (.c (.p (.int .i64) many))), (95, [], .v (.c (.p (.int .i64) v23))), (97, [], .v (.c (.p (.int .i64) v24)))], [(30000, [], .box [.nils, .p (.int .i64) (0 : Int)]), (30001, [], .box [.p (.sl (.int .u8)) rv9, .p .bool rv10]), (30200, [], .box [.own 30400, .p (.int .i64) v2]), (30400, [], .arr 87 (.pr (.int .i64) (.pr (.int .i64) (.pr (.int .i64) (.sl (.sl (.int .i64)))))) l6120)]⟩ : St)) (by kernel_rfl) ⟨trivial, trivial, trivial, trivial, trivial, trivial, trivial⟩ ?_
                    refine awl_nil ?_
                    refine thenQ_n ?_
                    refine aw_cond (b := (decide ((rv9.length : Int) < (2 : Int)))) (by kernel_rfl) (fun hb => ?_) (fun hb => ?_)
                    · have h := h.1 hb
                      refine aw_seq ?_
                      refine aw_region ?_
                      refine awl_runp 4 [40, 43, 44, 45, 95, 97] [30000, 30001, 30200, 30400] (ob := (True ∧ True ∧ True ∧ True ∧ True)) (st' := (⟨38, [(40, [], .v (.c (.ptr 30000 0))), (43, [], .v (.c (.ptr 30001 0))), (44, [], .v (.c (.ptr 30200 0))), (45, [], .v (.c (.p (.int .i64) many))), (95, [], .v (.c (.p (.int .i64) v23))), (97, [], .v (.c (.p (.int .i64) v24)))], [(30000, [], .box [.nils, .p (.int .i64) (0 : Int)]), (30001, [], .box [.p (.sl (.int .u8)) rv9, .p .bool true]), (30200, [], .box [.own 30400, .p (.int .i64) v2]), (30400, [], .arr 87 (.pr (.int .i64) (.pr (.int .i64) (.pr (.int .i64) (.sl (.sl (.int .i64)))))) l6120)]⟩ : St)) (by kernel_rfl) ⟨trivial, trivial, trivial, trivial, trivial⟩ ?_
                      refine awl_nil ?_
                      refine thenQ_n ?_
                      refine aw_seq ?_
                      refine aw_region ?_
                      refine awl_runp 1 [2, 40, 43, 44, 45, 95, 97] [30000, 30001, 30200, 30400] (ob := (True ∧ True)) (st' := (⟨38, [(2, [], .v (.c (.p (.int .i64) (0 : Int)))), (40, [], .v (.c (.ptr 30000 0))), (43, [], .v (.c (.ptr 30001 0))), (44, [], .v (.c (.ptr 30200 0))), (45, [], .v (.c (.p (.int .i64) many))), (95, [], .v (.c (.p (.int .i64) v23))), (97, [], .v (.c (.p (.int .i64) v24)))], [(30000, [], .box [.nils, .p (.int .i64) (0 : Int)]), (30001, [], .box [.p (.sl (.int .u8)) rv9, .p .bool true]), (30200, [], .box [.own 30400, .p (.int .i64) v2]), (30400, [], .arr 87 (.pr (.int .i64) (.pr (.int .i64) (.pr (.int .i64) (.sl (.sl (.int .i64)))))) l6120)]⟩ : St)) (by kernel_rfl) ⟨trivial, trivial⟩ ?_
                      refine awl_nil ?_
                      refine thenQ_n ?_
                      refine aw_ret ?_
                      refine thenQ_r ?_
                      exact rest7 ((0 : Int), rv9, true) h
                    · have h := h.2 hb
                      refine aw_skip ?_
                      refine thenQ_n ?_
                      refine aw_seq ?_
                      refine awd_begin [] (by kernel_rfl) ?_
                      obtain ⟨o1, o2, o3, o4, h⟩ := h
                      refine awd_runp (by kernel_rfl) [0, 1, 2, 3, 4, 5, 6, 7, 8, 9, 10, 11, 12, 13, 14, 15, 16] [0, 3, 40, 43, 44, 45, 95, 97] [30000, 30001, 30200, 30400] (ob := (True ∧ True ∧ True ∧ True ∧ inIdx (0 : Int) rv9.length ∧ True ∧ True ∧ True ∧ True ∧ True ∧ True ∧ inIdx (1 : Int) rv9.length ∧ True ∧ True ∧ 0 ≤ (8 : Int) ∧ InR ((rv9.getD ((0 : Int)).toNat (0 : Int)) + (bShl .i64 (rv9.getD ((1 : Int)).toNat (0 : Int)) (8 : Int))) ∧ True ∧ True)) (done' := [16, 15, 14, 13, 12, 11, 10, 9, 8, 7, 6, 5, 4, 3, 2, 1, 0]) (st' := (⟨38, [(0, [], .v (.c (.ptr 30001 0))), (3, [], .v (.c (.p (.int .i64) ((rv9.getD ((0 : Int)).toNat (0 : Int)) + (bShl .i64 (rv9.getD ((1 : Int)).toNat (0 : Int)) (8 : Int)))))), (40, [], .v (.c (.ptr 30000 0))), (43, [], .v (.c (.ptr 30001 0))), (44, [], .v (.c (.ptr 30200 0))), (45, [], .v (.c (.p (.int .i64) many))), (95, [], .v (.c (.p (.int .i64) v23))), (97, [], .v (.c (.p (.int .i64) v24)))], [(30000, [], .box [.nils, .p (.int .i64) (0 : Int)]), (30001, [], .box [.p (.sl (.int .u8)) rv9, .p .bool rv10]), (30200, [], .box [.own 30400, .p (.int .i64) v2]), (30400, [], .arr 87 (.pr (.int .i64) (.pr (.int .i64) (.pr (.int .i64) (.sl (.sl (.int .i64)))))) l6120)]⟩ : St)) (by kernel_rfl) ⟨trivial, trivial, trivial, trivial, o1, trivial, trivial, trivial, trivial, trivial, trivial, o2, trivial, trivial, o3, o4, trivial, trivial⟩ ?_
                      refine awd_done (by kernel_rfl) ?_
                      refine thenQ_n ?_
                      refine aw_seq ?_
                      refine aw_region ?_
                      obtain ⟨o1, h⟩ := h
                      refine awl_runp 9 [3, 40, 43, 44, 45, 95, 97] [30000, 30001, 30200, 30400] (ob := (True ∧ True ∧ True ∧ True ∧ True ∧ (0 ≤ (2 : Int) ∧ (2 : Int) ≤ (rv9.length : Int)) ∧ True ∧ True ∧ True ∧ True)) (st' := (⟨38, [(3, [], .v (.c (.p (.int .i64) ((rv9.getD ((0 : Int)).toNat (0 : Int)) + (bShl .i64 (rv9.getD ((1 : Int)).toNat (0 : Int)) (8 : Int)))))), (40, [], .v (.c (.ptr 30000 0))), (43, [], .v (.c (.ptr 30001 0))), (44, [], .v (.c (.ptr 30200 0))), (45, [], .v (.c (.p (.int .i64) many))), (95, [], .v (.c (.p (.int .i64) v23))), (97, [], .v (.c (.p (.int .i64) v24)))], [(30000, [], .box [.nils, .p (.int .i64) (0 : Int)]), (30001, [], .box [.p (.sl (.int .u8)) (rv9.drop ((2 : Int)).toNat), .p .bool rv10]), (30200, [], .box [.own 30400, .p (.int .i64) v2]), (30400, [], .arr 87 (.pr (.int .i64) (.pr (.int .i64) (.pr (.int .i64) (.sl (.sl (.int .i64)))))) l6120)]⟩ : St)) (by kernel_rfl) ⟨trivial, trivial, trivial, trivial, trivial, o1, trivial, trivial, trivial, trivial⟩ ?_
                      refine awl_nil ?_
                      refine thenQ_n ?_
                      refine aw_seq ?_
                      refine aw_region ?_
                      refine awl_runp 2 [2, 40, 43, 44, 45, 95, 97] [30000, 30001, 30200, 30400] (ob := (True ∧ True ∧ True)) (st' := (⟨38, [(2, [], .v (.c (.p (.int .i64) ((rv9.getD ((0 : Int)).toNat (0 : Int)) + (bShl .i64 (rv9.getD ((1 : Int)).toNat (0 : Int)) (8 : Int)))))), (40, [], .v (.c (.ptr 30000 0))), (43, [], .v (.c (.ptr 30001 0))), (44, [], .v (.c (.ptr 30200 0))), (45, [], .v (.c (.p (.int .i64) many))), (95, [], .v (.c (.p (.int .i64) v23))), (97, [], .v (.c (.p (.int .i64) v24)))], [(30000, [], .box [.nils, .p (.int .i64) (0 : Int)]), (30001, [], .box [.p (.sl (.int .u8)) (rv9.drop ((2 : Int)).toNat), .p .bool rv10]), (30200, [], .box [.own 30400, .p (.int .i64) v2]), (30400, [], .arr 87 (.pr (.int .i64) (.pr (.int .i64) (.pr (.int .i64) (.sl (.sl (.int .i64)))))) l6120)]⟩ : St)) (by kernel_rfl) ⟨trivial, trivial, trivial⟩ ?_
                      refine awl_nil ?_
                      refine thenQ_n ?_
                      refine aw_ret ?_
                      exact rest7 (((rv9.getD ((0 : Int)).toNat (0 : Int)) + (bShl .i64 (rv9.getD ((1 : Int)).toNat (0 : Int)) (8 : Int))), (rv9.drop ((2 : Int)).toNat), rv10) h
                · refine aw_seq ?_
                  refine aw_region ?_
                  refine awl_runp 1 [0, 40, 43, 44, 45, 95] [30000, 30001, 30200, 30400] (ob := (True ∧ True)) (st' := (⟨38, [(0, [], .v (.c (.ptr 30001 0))), (40, [], .v (.c (.ptr 30000 0))), (43, [], .v (.c (.ptr 30001 0))), (44, [], .v (.c (.ptr 30200 0))), (45, [], .v (.c (.p (.int .i64) many))), (95, [], .v (.c (.p (.int .i64) v23)))], [(30000, [], .box [.nils, .p (.int .i64) (0 : Int)]), (30001, [], .box [.p (.sl (.int .u8)) rv7, .p .bool rv8]), (30200, [], .box [.own 30400, .p (.int .i64) v2]), (30400, [], .arr 87 (.pr (.int .i64) (.pr (.int .i64) (.pr (.int .i64) (.sl (.sl (.int .i64)))))) l6120)]⟩ : St)) (by kernel_rfl) ⟨trivial, trivial⟩ ?_
                  refine awl_nil ?_
                  refine thenQ_n ?_
                  refine aw_seq ?_
                  refine aw_seq ?_
                  refine aw_region ?_
                  refine awl_runp 6 [0, 9, 40, 43, 44, 45, 95] [30000, 30001, 30200, 30400] (ob := (True ∧ True ∧ True ∧ True ∧ True ∧ True ∧ True)) (st' := (⟨38, [(0, [], .v (.c (.ptr 30001 0))), (9, [], .v (.c (.p .bool (decide ((rv7.length : Int) < (2 : Int)))))), (40, [], .v (.c (.ptr 30000 0))), (43, [], .v (.c (.ptr 30001 0))), (44, [], .v (.c (.ptr 30200 0))), (45, [], .v (.c (.p (.int .i64) many))), (95, [], .v (.c (.p (.int .i64) v23)))], [(30000, [], .box [.nils, .p (.int .i64) (0 : Int)]), (30001, [], .box [.p (.sl (.int .u8)) rv7, .p .bool rv8]), (30200, [], .box [.own 30400, .p (.int .i64) v2]), (30400, [], .arr 87 (.pr (.int .i64) (.pr (.int .i64) (.pr (.int .i64) (.sl (.sl (.int .i64)))))) l6120)]⟩ : St)) (by kernel_rfl) ⟨trivial, trivial, trivial, trivial, trivial, trivial, trivial⟩ ?_
                  refine awl_nil ?_
                  refine thenQ_n ?_
                  refine aw_cond (b := (decide ((rv7.length : Int) < (2 : Int)))) (by kernel_rfl) (fun hb => ?_) (fun hb => ?_)
                  · have h := h.1 hb
                    refine aw_seq ?_
                    refine aw_region ?_
                    refine awl_runp 4 [40, 43, 44, 45, 95] [30000, 30001, 30200, 30400] (ob := (True ∧ True ∧ True ∧ True ∧ True)) (st' := (⟨38, [(40, [], .v (.c (.ptr 30000 0))), (43, [], .v (.c (.ptr 30001 0))), (44, [], .v (.c (.ptr 30200 0))), (45, [], .v (.c (.p (.int .i64) many))), (95, [], .v (.c (.p (.int .i64) v23)))], [(30000, [], .box [.nils, .p (.int .i64) (0 : Int)]), (30001, [], .box [.p (.sl (.int .u8)) rv7, .p .bool true]), (30200, [], .box [.own 30400, .p (.int .i64) v2]), (30400, [], .arr 87 (.pr (.int .i64) (.pr (.int .i64) (.pr (.int .i64) (.sl (.sl (.int .i64)))))) l6120)]⟩ : St)) (by kernel_rfl) ⟨trivial, trivial, trivial, trivial, trivial⟩ ?_
                    refine awl_nil ?_
                    refine thenQ_n ?_
                    refine aw_seq ?_
                    refine aw_region ?_
                    refine awl_runp 1 [2, 40, 43, 44, 45, 95] [30000, 30001, 30200, 30400] (ob := (True ∧ True)) (st' := (⟨38, [(2, [], .v (.c (.p (.int .i64) (0 : Int)))), (40, [], .v (.c (.ptr 30000 0))), (43, [], .v (.c (.ptr 30001 0))), (44, [], .v (.c (.ptr 30200 0))), (45, [], .v (.c (.p (.int .i64) many))), (95, [], .v (.c (.p (.int .i64) v23)))], [(30000, [], .box [.nils, .p (.int .i64) (0 : Int)]), (30001, [], .box [.p (.sl (.int .u8)) rv7, .p .bool true]), (30200, [], .box [.own 30400, .p (.int .i64) v2]), (30400, [], .arr 87 (.pr (.int .i64) (.pr (.int .i64) (.pr (.int .i64) (.sl (.sl (.int .i64)))))) l6120)]⟩ : St)) (by kernel_rfl) ⟨trivial, trivial⟩ ?_
                    refine awl_nil ?_
                    refine thenQ_n ?_
                    refine aw_ret ?_
                    refine thenQ_r ?_
                    exact rest8 ((0 : Int), rv7, true) h
                  · have h := h.2 hb
                    refine aw_skip ?_
                    refine thenQ_n ?_
                    refine aw_seq ?_
                    refine awd_begin [] (by kernel_rfl) ?_
                    obtain ⟨o1, o2, o3, o4, h⟩ := h
                    refine awd_runp (by kernel_rfl) [0, 1, 2, 3, 4, 5, 6, 7, 8, 9, 10, 11, 12, 13, 14, 15, 16] [0, 3, 40, 43, 44, 45, 95] [30000, 30001, 30200, 30400] (ob := (True ∧ True ∧ True ∧ True ∧ inIdx (0 : Int) rv7.length ∧ True ∧ True ∧ True ∧ True ∧ True ∧ True ∧ inIdx (1 : Int) rv7.length ∧ True ∧ True ∧ 0 ≤ (8 : Int) ∧ InR ((rv7.getD ((0 : Int)).toNat (0 : Int)) + (bShl .i64 (rv7.getD ((1 : Int)).toNat (0 : Int)) (8 : Int))) ∧ True ∧ True)) (done' := [16, 15, 14, 13, 12, 11, 10, 9, 8, 7, 6, 5, 4, 3, 2, 1, 0]) (st' := (⟨38, [(0, [], .v (.c (.ptr 30001 0))), (3, [], .v (.c (.p (.int .i64) ((rv7.getD ((0 : Int)).toNat (0 : Int)) + (bShl .i64 (rv7.getD ((1 : Int)).toNat (0 : Int)) (8 : Int)))))), (40, [], .v (.c (.ptr 30000 0))), (43, [], .v (.c (.ptr 30001 0))), (44, [], .v (.c (.ptr 30200 0))), (45, [], .v (.c (.p (.int .i64) many))), (95, [], .v (.c (.p (.int .i64) v23)))], [(30000, [], .box [.nils, .p (.int .i64) (0 : Int)]), (30001, [], .box [.p (.sl (.int .u8)) rv7, .p .bool rv8]), (30200, [], .box [.own 30400, .p (.int .i64) v2]), (30400, [], .arr 87 (.pr (.int .i64) (.pr (.int .i64) (.pr (.int .i64) (.sl (.sl (.int .i64)))))) l6120)]⟩ : St)) (by kernel_rfl) ⟨trivial, trivial, trivial, trivial, o1, trivial, trivial, trivial, trivial, trivial, trivial, o2, trivial, trivial, o3, o4, trivial, trivial⟩ ?_
                    refine awd_done (by kernel_rfl) ?_
                    refine thenQ_n ?_
                    refine aw_seq ?_
                    refine aw_region ?_
                    obtain ⟨o1, h⟩ := h
                    refine awl_runp 9 [3, 40, 43, 44, 45, 95] [30000, 30001, 30200, 30400] (ob := (True ∧ True ∧ True ∧ True ∧ True ∧ (0 ≤ (2 : Int) ∧ (2 : Int) ≤ (rv7.length : Int)) ∧ True ∧ True ∧ True ∧ True)) (st' := (⟨38, [(3, [], .v (.c (.p (.int .i64) ((rv7.getD ((0 : Int)).toNat (0 : Int)) + (bShl .i64 (rv7.getD ((1 : Int)).toNat (0 : Int)) (8 : Int)))))), (40, [], .v (.c (.ptr 30000 0))), (43, [], .v (.c (.ptr 30001 0))), (44, [], .v (.c (.ptr 30200 0))), (45, [], .v (.c (.p (.int .i64) many))), (95, [], .v (.c (.p (.int .i64) v23)))], [(30000, [], .box [.nils, .p (.int .i64) (0 : Int)]), (30001, [], .box [.p (.sl (.int .u8)) (rv7.drop ((2 : Int)).toNat), .p .bool rv8]), (30200, [], .box [.own 30400, .p (.int .i64) v2]), (30400, [], .arr 87 (.pr (.int .i64) (.pr (.int .i64) (.pr (.int .i64) (.sl (.sl (.int .i64)))))) l6120)]⟩ : St)) (by kernel_rfl) ⟨trivial, trivial, trivial, trivial, trivial, o1, trivial, trivial, trivial, trivial⟩ ?_
                    refine awl_nil ?_
                    refine thenQ_n ?_
                    refine aw_seq ?_
                    refine aw_region ?_
                    refine awl_runp 2 [2, 40, 43, 44, 45, 95] [30000, 30001, 30200, 30400] (ob := (True ∧ True ∧ True)) (st' := (⟨38, [(2, [], .v (.c (.p (.int .i64) ((rv7.getD ((0 : Int)).toNat (0 : Int)) + (bShl .i64 (rv7.getD ((1 : Int)).toNat (0 : Int)) (8 : Int)))))), (40, [], .v (.c (.ptr 30000 0))), (43, [], .v (.c (.ptr 30001 0))), (44, [], .v (.c (.ptr 30200 0))), (45, [], .v (.c (.p (.int .i64) many))), (95, [], .v (.c (.p (.int .i64) v23)))], [(30000, [], .box [.nils, .p (.int .i64) (0 : Int)]), (30001, [], .box [.p (.sl (.int .u8)) (rv7.drop ((2 : Int)).toNat), .p .bool rv8]), (30200, [], .box [.own 30400, .p (.int .i64) v2]), (30400, [], .arr 87 (.pr (.int .i64) (.pr (.int .i64) (.pr (.int .i64) (.sl (.sl (.int .i64)))))) l6120)]⟩ : St)) (by kernel_rfl) ⟨trivial, trivial, trivial⟩ ?_
                    refine awl_nil ?_
                    refine thenQ_n ?_
                    refine aw_ret ?_
                    exact rest8 (((rv7.getD ((0 : Int)).toNat (0 : Int)) + (bShl .i64 (rv7.getD ((1 : Int)).toNat (0 : Int)) (8 : Int))), (rv7.drop ((2 : Int)).toNat), rv8) h
              · refine aw_seq ?_
                refine aw_region ?_
                refine awl_runp 1 [0, 40, 43, 44, 45] [30000, 30001, 30200, 30400] (ob := (True ∧ True)) (st' := (⟨38, [(0, [], .v (.c (.ptr 30001 0))), (40, [], .v (.c (.ptr 30000 0))), (43, [], .v (.c (.ptr 30001 0))), (44, [], .v (.c (.ptr 30200 0))), (45, [], .v (.c (.p (.int .i64) many)))], [(30000, [], .box [.nils, .p (.int .i64) (0 : Int)]), (30001, [], .box [.p (.sl (.int .u8)) rv5, .p .bool rv6]), (30200, [], .box [.own 30400, .p (.int .i64) v2]), (30400, [], .arr 87 (.pr (.int .i64) (.pr (.int .i64) (.pr (.int .i64) (.sl (.sl (.int .i64)))))) l6120)]⟩ : St)) (by kernel_rfl) ⟨trivial, trivial⟩ ?_
                refine awl_nil ?_
                refine thenQ_n ?_
                refine aw_seq ?_
                refine aw_seq ?_
                refine aw_region ?_
                refine awl_runp 6 [0, 9, 40, 43, 44, 45] [30000, 30001, 30200, 30400] (ob := (True ∧ True ∧ True ∧ True ∧ True ∧ True ∧ True)) (st' := (⟨38, [(0, [], .v (.c (.ptr 30001 0))), (9, [], .v (.c (.p .bool (decide ((rv5.length : Int) < (2 : Int)))))), (40, [], .v (.c (.ptr 30000 0))), (43, [], .v (.c (.ptr 30001 0))), (44, [], .v (.c (.ptr 30200 0))), (45, [], .v (.c (.p (.int .i64) many)))], [(30000, [], .box [.nils, .p (.int .i64) (0 : Int)]), (30001, [], .box [.p (.sl (.int .u8)) rv5, .p .bool rv6]), (30200, [], .box [.own 30400, .p (.int .i64) v2]), (30400, [], .arr 87 (.pr (.int .i64) (.pr (.int .i64) (.pr (.int .i64) (.sl (.sl (.int .i64)))))) l6120)]⟩ : St)) (by kernel_rfl) ⟨trivial, trivial, trivial, trivial, trivial, trivial, trivial⟩ ?_
                refine awl_nil ?_
                refine thenQ_n ?_
                refine aw_cond (b := (decide ((rv5.length : Int) < (2 : Int)))) (by kernel_rfl) (fun hb => ?_) (fun hb => ?_)
                · have h := h.1 hb
                  refine aw_seq ?_
                  refine aw_region ?_
                  refine awl_runp 4 [40, 43, 44, 45] [30000, 30001, 30200, 30400] (ob := (True ∧ True ∧ True ∧ True ∧ True)) (st' := (⟨38, [(40, [], .v (.c (.ptr 30000 0))), (43, [], .v (.c (.ptr 30001 0))), (44, [], .v (.c (.ptr 30200 0))), (45, [], .v (.c (.p (.int .i64) many)))], [(30000, [], .box [.nils, .p (.int .i64) (0 : Int)]), (30001, [], .box [.p (.sl (.int .u8)) rv5, .p .bool true]), (30200, [], .box [.own 30400, .p (.int .i64) v2]), (30400, [], .arr 87 (.pr (.int .i64) (.pr (.int .i64) (.pr (.int .i64) (.sl (.sl (.int .i64)))))) l6120)]⟩ : St)) (by kernel_rfl) ⟨trivial, trivial, trivial, trivial, trivial⟩ ?_
                  refine awl_nil ?_
                  refine thenQ_n ?_
                  refine aw_seq ?_
                  refine aw_region ?_
                  refine awl_runp 1 [2, 40, 43, 44, 45] [30000, 30001, 30200, 30400] (ob := (True ∧ True)) (st' := (⟨38, [(2, [], .v (.c (.p (.int .i64) (0 : Int)))), (40, [], .v (.c (.ptr 30000 0))), (43, [], .v (.c (.ptr 30001 0))), (44, [], .v (.c (.ptr 30200 0))), (45, [], .v (.c (.p (.int .i64) many)))], [(30000, [], .box [.nils, .p (.int .i64) (0 : Int)]), (30001, [], .box [.p (.sl (.int .u8)) rv5, .p .bool true]), (30200, [], .box [.own 30400, .p (.int .i64) v2]), (30400, [], .arr 87 (.pr (.int .i64) (.pr (.int .i64) (.pr (.int .i64) (.sl (.sl (.int .i64)))))) l6120)]⟩ : St)) (by kernel_rfl) ⟨trivial, trivial⟩ ?_
                  refine awl_nil ?_
                  refine thenQ_n ?_
                  refine aw_ret ?_
                  refine thenQ_r ?_
                  exact rest9 ((0 : Int), rv5, true) h
                · have h := h.2 hb
                  refine aw_skip ?_
                  refine thenQ_n ?_
                  refine aw_seq ?_
                  refine awd_begin [] (by kernel_rfl) ?_
                  obtain ⟨o1, o2, o3, o4, h⟩ := h
                  refine awd_runp (by kernel_rfl) [0, 1, 2, 3, 4, 5, 6, 7, 8, 9, 10, 11, 12, 13, 14, 15, 16] [0, 3, 40, 43, 44, 45] [30000, 30001, 30200, 30400] (ob := (True ∧ True ∧ True ∧ True ∧ inIdx (0 : Int) rv5.length ∧ True ∧ True ∧ True ∧ True ∧ True ∧ True ∧ inIdx (1 : Int) rv5.length ∧ True ∧ True ∧ 0 ≤ (8 : Int) ∧ InR ((rv5.getD ((0 : Int)).toNat (0 : Int)) + (bShl .i64 (rv5.getD ((1 : Int)).toNat (0 : Int)) (8 : Int))) ∧ True ∧ True)) (done' := [16, 15, 14, 13, 12, 11, 10, 9, 8, 7, 6, 5, 4, 3, 2, 1, 0]) (st' := (⟨38, [(0, [], .v (.c (.ptr 30001 0))), (3, [], .v (.c (.p (.int .i64) ((rv5.getD ((0 : Int)).toNat (0 : Int)) + (bShl .i64 (rv5.getD ((1 : Int)).toNat (0 : Int)) (8 : Int)))))), (40, [], .v (.c (.ptr 30000 0))), (43, [], .v (.c (.ptr 30001 0))), (44, [], .v (.c (.ptr 30200 0))), (45, [], .v (.c (.p (.int .i64) many)))], [(30000, [], .box [.nils, .p (.int .i64) (0 : Int)]), (30001, [], .box [.p (.sl (.int .u8)) rv5, .p .bool rv6]), (30200, [], .box [.own 30400, .p (.int .i64) v2]), (30400, [], .arr 87 (.pr (.int .i64) (.pr (.int .i64) (.pr (.int .i64) (.sl (.sl (.int .i64)))))) l6120)]⟩ : St)) (by kernel_rfl) ⟨trivial, trivial, trivial, trivial, o1, trivial, trivial, trivial, trivial, trivial, trivial, o2, trivial, trivial, o3, o4, trivial, trivial⟩ ?_
                  refine awd_done (by kernel_rfl) ?_
                  refine thenQ_n ?_
                  refine aw_seq ?_
                  refine aw_region ?_
                  obtain ⟨o1, h⟩ := h
                  refine awl_runp 9 [3, 40, 43, 44, 45] [30000, 30001, 30200, 30400] (ob := (True ∧ True ∧ True ∧ True ∧ True ∧ (0 ≤ (2 : Int) ∧ (2 : Int) ≤ (rv5.length : Int)) ∧ True ∧ True ∧ True ∧ True)) (st' := (⟨38, [(3, [], .v (.c (.p (.int .i64) ((rv5.getD ((0 : Int)).toNat (0 : Int)) + (bShl .i64 (rv5.getD ((1 : Int)).toNat (0 : Int)) (8 : Int)))))), (40, [], .v (.c (.ptr 30000 0))), (43, [], .v (.c (.ptr 30001 0))), (44, [], .v (.c (.ptr 30200 0))), (45, [], .v (.c (.p (.int .i64) many)))], [(30000, [], .box [.nils, .p (.int .i64) (0 : Int)]), (30001, [], .box [.p (.sl (.int .u8)) (rv5.drop ((2 : Int)).toNat), .p .bool rv6]), (30200, [], .box [.own 30400, .p (.int .i64) v2]), (30400, [], .arr 87 (.pr (.int .i64) (.pr (.int .i64) (.pr (.int .i64) (.sl (.sl (.int .i64)))))) l6120)]⟩ : St)) (by kernel_rfl) ⟨trivial, trivial, trivial, trivial, trivial, o1, trivial, trivial, trivial, trivial⟩ ?_
                  refine awl_nil ?_
                  refine thenQ_n ?_
                  refine aw_seq ?_
                  refine aw_region ?_
                  refine awl_runp 2 [2, 40, 43, 44, 45] [30000, 30001, 30200, 30400] (ob := (True ∧ True ∧ True)) (st' := (⟨38, [(2, [], .v (.c (.p (.int .i64) ((rv5.getD ((0 : Int)).toNat (0 : Int)) + (bShl .i64 (rv5.getD ((1 : Int)).toNat (0 : Int)) (8 : Int)))))), (40, [], .v (.c (.ptr 30000 0))), (43, [], .v (.c (.ptr 30001 0))), (44, [], .v (.c (.ptr 30200 0))), (45, [], .v (.c (.p (.int .i64) many)))], [(30000, [], .box [.nils, .p (.int .i64) (0 : Int)]), (30001, [], .box [.p (.sl (.int .u8)) (rv5.drop ((2 : Int)).toNat), .p .bool rv6]), (30200, [], .box [.own 30400, .p (.int .i64) v2]), (30400, [], .arr 87 (.pr (.int .i64) (.pr (.int .i64) (.pr (.int .i64) (.sl (.sl (.int .i64)))))) l6120)]⟩ : St)) (by kernel_rfl) ⟨trivial, trivial, trivial⟩ ?_
                  refine awl_nil ?_
                  refine thenQ_n ?_
                  refine aw_ret ?_
                  exact rest9 (((rv5.getD ((0 : Int)).toNat (0 : Int)) + (bShl .i64 (rv5.getD ((1 : Int)).toNat (0 : Int)) (8 : Int))), (rv5.drop ((2 : Int)).toNat), rv6) h
            · have h := h.2 hb
              refine aw_conv [.prune [2, 5, 6] [6120, 30000, 30001, 30200]] (st' := (⟨128, [(2, [], .v (.c (.ptr 30000 0))), (5, [], .v (.c (.ptr 30001 0))), (6, [], .v (.c (.ptr 30200 0)))], [(6120, [], .arr 87 (.pr (.int .i64) (.pr (.int .i64) (.pr (.int .i64) (.sl (.sl (.int .i64)))))) l6120), (30000, [], .box [.nils, .p (.int .i64) (0 : Int)]), (30001, [], .box [.p (.sl (.int .u8)) rv5, .p .bool rv6]), (30200, [], .box [.own 6120, .p (.int .i64) v2])]⟩ : St)) (by kernel_rfl) ?_
              refine aw_exit ?_
              refine thenQ_x ?_
              refine thenQ_x ?_
              refine blockQ_hit ?_
              exact rest1 (l6120, rv5, rv6) h
        · refine aw_seq ?_
          refine aw_region ?_
          refine awl_runp 1 [0, 40, 43, 44] [30000, 30001, 30200] (ob := (True ∧ True)) (st' := (⟨38, [(0, [], .v (.c (.ptr 30001 0))), (40, [], .v (.c (.ptr 30000 0))), (43, [], .v (.c (.ptr 30001 0))), (44, [], .v (.c (.ptr 30200 0)))], [(30000, [], .box [.nils, .p (.int .i64) (0 : Int)]), (30001, [], .box [.p (.sl (.int .u8)) rv, .p .bool rv2]), (30200, [], .box [.nils, .p (.int .i64) v2])]⟩ : St)) (by kernel_rfl) ⟨trivial, trivial⟩ ?_
          refine awl_nil ?_
          refine thenQ_n ?_
          refine aw_seq ?_
          refine aw_seq ?_
          refine aw_region ?_
          refine awl_runp 6 [0, 9, 40, 43, 44] [30000, 30001, 30200] (ob := (True ∧ True ∧ True ∧ True ∧ True ∧ True ∧ True)) (st' := (⟨38, [(0, [], .v (.c (.ptr 30001 0))), (9, [], .v (.c (.p .bool (decide ((rv.length : Int) < (2 : Int)))))), (40, [], .v (.c (.ptr 30000 0))), (43, [], .v (.c (.ptr 30001 0))), (44, [], .v (.c (.ptr 30200 0)))], [(30000, [], .box [.nils, .p (.int .i64) (0 : Int)]), (30001, [], .box [.p (.sl (.int .u8)) rv, .p .bool rv2]), (30200, [], .box [.nils, .p (.int .i64) v2])]⟩ : St)) (by kernel_rfl) ⟨trivial, trivial, trivial, trivial, trivial, trivial, trivial⟩ ?_
          refine awl_nil ?_
          refine thenQ_n ?_
          refine aw_cond (b := (decide ((rv.length : Int) < (2 : Int)))) (by kernel_rfl) (fun hb => ?_) (fun hb => ?_)
          · have h := h.1 hb
            refine aw_seq ?_
            refine aw_region ?_
            refine awl_runp 4 [40, 43, 44] [30000, 30001, 30200] (ob := (True ∧ True ∧ True ∧ True ∧ True)) (st' := (⟨38, [(40, [], .v (.c (.ptr 30000 0))), (43, [], .v (.c (.ptr 30001 0))), (44, [], .v (.c (.ptr 30200 0)))], [(30000, [], .box [.nils, .p (.int .i64) (0 : Int)]), (30001, [], .box [.p (.sl (.int .u8)) rv, .p .bool true]), (30200, [], .box [.nils, .p (.int .i64) v2])]⟩ : St)) (by kernel_rfl) ⟨trivial, trivial, trivial, trivial, trivial⟩ ?_
            refine awl_nil ?_
            refine thenQ_n ?_
            refine aw_seq ?_
            refine aw_region ?_
            refine awl_runp 1 [2, 40, 43, 44] [30000, 30001, 30200] (ob := (True ∧ True)) (st' := (⟨38, [(2, [], .v (.c (.p (.int .i64) (0 : Int)))), (40, [], .v (.c (.ptr 30000 0))), (43, [], .v (.c (.ptr 30001 0))), (44, [], .v (.c (.ptr 30200 0)))], [(30000, [], .box [.nils, .p (.int .i64) (0 : Int)]), (30001, [], .box [.p (.sl (.int .u8)) rv, .p .bool true]), (30200, [], .box [.nils, .p (.int .i64) v2])]⟩ : St)) (by kernel_rfl) ⟨trivial, trivial⟩ ?_
            refine awl_nil ?_
            refine thenQ_n ?_
            refine aw_ret ?_
            refine thenQ_r ?_
            exact rest10 ((0 : Int), rv, true) h
          · have h := h.2 hb
            refine aw_skip ?_
            refine thenQ_n ?_
            refine aw_seq ?_
            refine awd_begin [] (by kernel_rfl) ?_
            obtain ⟨o1, o2, o3, o4, h⟩ := h
            refine awd_runp (by kernel_rfl) [0, 1, 2, 3, 4, 5, 6, 7, 8, 9, 10, 11, 12, 13, 14, 15, 16] [0, 3, 40, 43, 44] [30000, 30001, 30200] (ob := (True ∧ True ∧ True ∧ True ∧ inIdx (0 : Int) rv.length ∧ True ∧ True ∧ True ∧ True ∧ True ∧ True ∧ inIdx (1 : Int) rv.length ∧ True ∧ True ∧ 0 ≤ (8 : Int) ∧ InR ((rv.getD ((0 : Int)).toNat (0 : Int)) + (bShl .i64 (rv.getD ((1 : Int)).toNat (0 : Int)) (8 : Int))) ∧ True ∧ True)) (done' := [16, 15, 14, 13, 12, 11, 10, 9, 8, 7, 6, 5, 4, 3, 2, 1, 0]) (st' := (⟨38, [(0, [], .v (.c (.ptr 30001 0))), (3, [], .v (.c (.p (.int .i64) ((rv.getD ((0 : Int)).toNat (0 : Int)) + (bShl .i64 (rv.getD ((1 : Int)).toNat (0 : Int)) (8 : Int)))))), (40, [], .v (.c (.ptr 30000 0))), (43, [], .v (.c (.ptr 30001 0))), (44, [], .v (.c (.ptr 30200 0)))], [(30000, [], .box [.nils, .p (.int .i64) (0 : Int)]), (30001, [], .box [.p (.sl (.int .u8)) rv, .p .bool rv2]), (30200, [], .box [.nils, .p (.int .i64) v2])]⟩ : St)) (by kernel_rfl) ⟨trivial, trivial, trivial, trivial, o1, trivial, trivial, trivial, trivial, trivial, trivial, o2, trivial, trivial, o3, o4, trivial, trivial⟩ ?_
            refine awd_done (by kernel_rfl) ?_
            refine thenQ_n ?_
            refine aw_seq ?_
            refine aw_region ?_
            obtain ⟨o1, h⟩ := h
            refine awl_runp 9 [3, 40, 43, 44] [30000, 30001, 30200] (ob := (True ∧ True ∧ True ∧ True ∧ True ∧ (0 ≤ (2 : Int) ∧ (2 : Int) ≤ (rv.length : Int)) ∧ True ∧ True ∧ True ∧ True)) (st' := (⟨38, [(3, [], .v (.c (.p (.int .i64) ((rv.getD ((0 : Int)).toNat (0 : Int)) + (bShl .i64 (rv.getD ((1 : Int)).toNat (0 : Int)) (8 : Int)))))), (40, [], .v (.c (.ptr 30000 0))), (43, [], .v (.c (.ptr 30001 0))), (44, [], .v (.c (.ptr 30200 0)))], [(30000, [], .box [.nils, .p (.int .i64) (0 : Int)]), (30001, [], .box [.p (.sl (.int .u8)) (rv.drop ((2 : Int)).toNat), .p .bool rv2]), (30200, [], .box [.nils, .p (.int .i64) v2])]⟩ : St)) (by kernel_rfl) ⟨trivial, trivial, trivial, trivial, trivial, o1, trivial, trivial, trivial, trivial⟩ ?_
            refine awl_nil ?_
            refine thenQ_n ?_
            refine aw_seq ?_
            refine aw_region ?_
            refine awl_runp 2 [2, 40, 43, 44] [30000, 30001, 30200] (ob := (True ∧ True ∧ True)) (st' := (⟨38, [(2, [], .v (.c (.p (.int .i64) ((rv.getD ((0 : Int)).toNat (0 : Int)) + (bShl .i64 (rv.getD ((1 : Int)).toNat (0 : Int)) (8 : Int)))))), (40, [], .v (.c (.ptr 30000 0))), (43, [], .v (.c (.ptr 30001 0))), (44, [], .v (.c (.ptr 30200 0)))], [(30000, [], .box [.nils, .p (.int .i64) (0 : Int)]), (30001, [], .box [.p (.sl (.int .u8)) (rv.drop ((2 : Int)).toNat), .p .bool rv2]), (30200, [], .box [.nils, .p (.int .i64) v2])]⟩ : St)) (by kernel_rfl) ⟨trivial, trivial, trivial⟩ ?_
            refine awl_nil ?_
            refine thenQ_n ?_
            refine aw_ret ?_
            exact rest10 (((rv.getD ((0 : Int)).toNat (0 : Int)) + (bShl .i64 (rv.getD ((1 : Int)).toNat (0 : Int)) (8 : Int))), (rv.drop ((2 : Int)).toNat), rv2) h
      · refine aw_seq ?_
        refine aw_region ?_
        refine awl_runp 1 [0, 40, 43] [30000, 30001] (ob := (True ∧ True)) (st' := (⟨38, [(0, [], .v (.c (.ptr 30001 0))), (40, [], .v (.c (.ptr 30000 0))), (43, [], .v (.c (.ptr 30001 0)))], [(30000, [], .box [.nils, .p (.int .i64) (0 : Int)]), (30001, [], .box [.p (.sl (.int .u8)) (b.take (((b.length : Int) - (4 : Int))).toNat), .p .bool false])]⟩ : St)) (by kernel_rfl) ⟨trivial, trivial⟩ ?_
        refine awl_nil ?_
        refine thenQ_n ?_
        refine aw_seq ?_
        refine aw_seq ?_
        refine aw_region ?_
        refine awl_runp 6 [0, 9, 40, 43] [30000, 30001] (ob := (True ∧ True ∧ True ∧ True ∧ True ∧ True ∧ True)) (st' := (⟨38, [(0, [], .v (.c (.ptr 30001 0))), (9, [], .v (.c (.p .bool (decide (((b.take (((b.length : Int) - (4 : Int))).toNat).length : Int) < (2 : Int)))))), (40, [], .v (.c (.ptr 30000 0))), (43, [], .v (.c (.ptr 30001 0)))], [(30000, [], .box [.nils, .p (.int .i64) (0 : Int)]), (30001, [], .box [.p (.sl (.int .u8)) (b.take (((b.length : Int) - (4 : Int))).toNat), .p .bool false])]⟩ : St)) (by kernel_rfl) ⟨trivial, trivial, trivial, trivial, trivial, trivial, trivial⟩ ?_
        refine awl_nil ?_
        refine thenQ_n ?_
        refine aw_cond (b := (decide (((b.take (((b.length : Int) - (4 : Int))).toNat).length : Int) < (2 : Int)))) (by kernel_rfl) (fun hb => ?_) (fun hb => ?_)
        · have h := h.1 hb
          refine aw_seq ?_
          refine aw_region ?_
          refine awl_runp 4 [40, 43] [30000, 30001] (ob := (True ∧ True ∧ True ∧ True ∧ True)) (st' := (⟨38, [(40, [], .v (.c (.ptr 30000 0))), (43, [], .v (.c (.ptr 30001 0)))], [(30000, [], .box [.nils, .p (.int .i64) (0 : Int)]), (30001, [], .box [.p (.sl (.int .u8)) (b.take (((b.length : Int) - (4 : Int))).toNat), .p .bool true])]⟩ : St)) (by kernel_rfl) ⟨trivial, trivial, trivial, trivial, trivial⟩ ?_
          refine awl_nil ?_
          refine thenQ_n ?_
          refine aw_seq ?_
          refine aw_region ?_
          refine awl_runp 1 [2, 40, 43] [30000, 30001] (ob := (True ∧ True)) (st' := (⟨38, [(2, [], .v (.c (.p (.int .i64) (0 : Int)))), (40, [], .v (.c (.ptr 30000 0))), (43, [], .v (.c (.ptr 30001 0)))], [(30000, [], .box [.nils, .p (.int .i64) (0 : Int)]), (30001, [], .box [.p (.sl (.int .u8)) (b.take (((b.length : Int) - (4 : Int))).toNat), .p .bool true])]⟩ : St)) (by kernel_rfl) ⟨trivial, trivial⟩ ?_
          refine awl_nil ?_
          refine thenQ_n ?_
          refine aw_ret ?_
          refine thenQ_r ?_
          exact rest11 ((0 : Int), (b.take (((b.length : Int) - (4 : Int))).toNat), true) h
        · have h := h.2 hb
          refine aw_skip ?_
          refine thenQ_n ?_
          refine aw_seq ?_
          refine awd_begin [] (by kernel_rfl) ?_
          obtain ⟨o1, o2, o3, o4, h⟩ := h
          refine awd_runp (by kernel_rfl) [0, 1, 2, 3, 4, 5, 6, 7, 8, 9, 10, 11, 12, 13, 14, 15, 16] [0, 3, 40, 43] [30000, 30001] (ob := (True ∧ True ∧ True ∧ True ∧ inIdx (0 : Int) (b.take (((b.length : Int) - (4 : Int))).toNat).length ∧ True ∧ True ∧ True ∧ True ∧ True ∧ True ∧ inIdx (1 : Int) (b.take (((b.length : Int) - (4 : Int))).toNat).length ∧ True ∧ True ∧ 0 ≤ (8 : Int) ∧ InR (((b.take (((b.length : Int) - (4 : Int))).toNat).getD ((0 : Int)).toNat (0 : Int)) + (bShl .i64 ((b.take (((b.length : Int) - (4 : Int))).toNat).getD ((1 : Int)).toNat (0 : Int)) (8 : Int))) ∧ True ∧ True)) (done' := [16, 15, 14, 13, 12, 11, 10, 9, 8, 7, 6, 5, 4, 3, 2, 1, 0]) (st' := (⟨38, [(0, [], .v (.c (.ptr 30001 0))), (3, [], .v (.c (.p (.int .i64) (((b.take (((b.length : Int) - (4 : Int))).toNat).getD ((0 : Int)).toNat (0 : Int)) + (bShl .i64 ((b.take (((b.length : Int) - (4 : Int))).toNat).getD ((1 : Int)).toNat (0 : Int)) (8 : Int)))))), (40, [], .v (.c (.ptr 30000 0))), (43, [], .v (.c (.ptr 30001 0)))], [(30000, [], .box [.nils, .p (.int .i64) (0 : Int)]), (30001, [], .box [.p (.sl (.int .u8)) (b.take (((b.length : Int) - (4 : Int))).toNat), .p .bool false])]⟩ : St)) (by kernel_rfl) ⟨trivial, trivial, trivial, trivial, o1, trivial, trivial, trivial, trivial, trivial, trivial, o2, trivial, trivial, o3, o4, trivial, trivial⟩ ?_
          refine awd_done (by kernel_rfl) ?_
          refine thenQ_n ?_
          refine aw_seq ?_
          refine aw_region ?_
          obtain ⟨o1, h⟩ := h
          refine awl_runp 9 [3, 40, 43] [30000, 30001] (ob := (True ∧ True ∧ True ∧ True ∧ True ∧ (0 ≤ (2 : Int) ∧ (2 : Int) ≤ ((b.take (((b.length : Int) - (4 : Int))).toNat).length : Int)) ∧ True ∧ True ∧ True ∧ True)) (st' := (⟨38, [(3, [], .v (.c (.p (.int .i64) (((b.take (((b.length : Int) - (4 : Int))).toNat).getD ((0 : Int)).toNat (0 : Int)) + (bShl .i64 ((b.take (((b.length : Int) - (4 : Int))).toNat).getD ((1 : Int)).toNat (0 : Int)) (8 : Int)))))), (40, [], .v (.c (.ptr 30000 0))), (43, [], .v (.c (.ptr 30001 0)))], [(30000, [], .box [.nils, .p (.int .i64) (0 : Int)]), (30001, [], .box [.p (.sl (.int .u8)) ((b.take (((b.length : Int) - (4 : Int))).toNat).drop ((2 : Int)).toNat), .p .bool false])]⟩ : St)) (by kernel_rfl) ⟨trivial, trivial, trivial, trivial, trivial, o1, trivial, trivial, trivial, trivial⟩ ?_
          refine awl_nil ?_
          refine thenQ_n ?_
          refine aw_seq ?_
          refine aw_region ?_
          refine awl_runp 2 [2, 40, 43] [30000, 30001] (ob := (True ∧ True ∧ True)) (st' := (⟨38, [(2, [], .v (.c (.p (.int .i64) (((b.take (((b.length : Int) - (4 : Int))).toNat).getD ((0 : Int)).toNat (0 : Int)) + (bShl .i64 ((b.take (((b.length : Int) - (4 : Int))).toNat).getD ((1 : Int)).toNat (0 : Int)) (8 : Int)))))), (40, [], .v (.c (.ptr 30000 0))), (43, [], .v (.c (.ptr 30001 0)))], [(30000, [], .box [.nils, .p (.int .i64) (0 : Int)]), (30001, [], .box [.p (.sl (.int .u8)) ((b.take (((b.length : Int) - (4 : Int))).toNat).drop ((2 : Int)).toNat), .p .bool false])]⟩ : St)) (by kernel_rfl) ⟨trivial, trivial, trivial⟩ ?_
          refine awl_nil ?_
          refine thenQ_n ?_
          refine aw_ret ?_
          exact rest11 ((((b.take (((b.length : Int) - (4 : Int))).toNat).getD ((0 : Int)).toNat (0 : Int)) + (bShl .i64 ((b.take (((b.length : Int) - (4 : Int))).toNat).getD ((1 : Int)).toNat (0 : Int)) (8 : Int))), ((b.take (((b.length : Int) - (4 : Int))).toNat).drop ((2 : Int)).toNat), false) h

-- coppicer/coppicerref.Ints
def VC33_k1 (K : Bool → Prop) : Prop :=
  K true

def VC33_l1 (a : (List Int)) (b : (List Int)) (K : Bool → Prop) (i : Int) (X1 : Int → Prop) : Prop :=
  (((decide (i < (a.length : Int))) = true → (inIdx i a.length ∧ inIdx i b.length ∧ (((!decide ((a.getD (i).toNat (0 : Int)) = (b.getD (i).toNat (0 : Int)))) = true → K false) ∧ ((!decide ((a.getD (i).toNat (0 : Int)) = (b.getD (i).toNat (0 : Int)))) = false → (InR (i + (1 : Int)) ∧ X1 (i + (1 : Int))))))) ∧ ((decide (i < (a.length : Int))) = false → VC33_k1 K))

def VC33 (a : (List Int)) (b : (List Int)) (K : Bool → Prop) : Prop :=
  (((!decide ((a.length : Int) = (b.length : Int))) = true → K false) ∧ ((!decide ((a.length : Int) = (b.length : Int))) = false → Loop (σ := Int) (fun s X => VC33_l1 a b K s X) (0 : Int)))

set_option maxHeartbeats 4000000 in
theorem link33 (a : (List Int)) (b : (List Int)) (K : Bool → Prop) (h : VC33 a b K) : ACalls Try.prog 33 [toV1 (.sl (.int .i64)) a, toV1 (.sl (.int .i64)) b] (fun res => ∃ y, res = (fun y => [toV1 .bool y]) y ∧ K y) := by
  refine acalls_of_aw [.bool] [.t 4] Try.func33 rfl rfl rfl ?_
  unfold VC33 at h
  refine aw_seq ?_
  refine aw_region ?_
  refine awl_runp 1 [0, 1] [] (ob := (True ∧ True)) (st' := (⟨26, [(0, [], .v (.c (.p (.sl (.int .i64)) a))), (1, [], .v (.c (.p (.sl (.int .i64)) b)))], []⟩ : St)) (by kernel_rfl) ⟨trivial, trivial⟩ ?_
  refine awl_nil ?_
  refine thenQ_n ?_
  refine aw_seq ?_
  refine aw_seq ?_
  refine aw_region ?_
  refine awl_runp 5 [0, 1, 10] [] (ob := (True ∧ True ∧ True ∧ True ∧ True ∧ True)) (st' := (⟨26, [(0, [], .v (.c (.p (.sl (.int .i64)) a))), (1, [], .v (.c (.p (.sl (.int .i64)) b))), (10, [], .v (.c (.p .bool (!decide ((a.length : Int) = (b.length : Int))))))], []⟩ : St)) (by kernel_rfl) ⟨trivial, trivial, trivial, trivial, trivial, trivial⟩ ?_
  refine awl_nil ?_
  refine thenQ_n ?_
  refine aw_cond (b := (!decide ((a.length : Int) = (b.length : Int)))) (by kernel_rfl) (fun hb => ?_) (fun hb => ?_)
  · have h := h.1 hb
    refine aw_seq ?_
    refine aw_region ?_
    refine awl_runp 1 [4] [] (ob := (True ∧ True)) (st' := (⟨26, [(4, [], .v (.c (.p .bool false)))], []⟩ : St)) (by kernel_rfl) ⟨trivial, trivial⟩ ?_
    refine awl_nil ?_
    refine thenQ_n ?_
    refine aw_ret ?_
    refine thenQ_r ?_
    exact retQ_r (σ := Bool) (R := (fun y => [toV1 .bool y])) (ob := (True ∧ True)) false (by kernel_rfl) ⟨trivial, trivial⟩ h
  · have h := h.2 hb
    refine aw_skip ?_
    refine thenQ_n ?_
    refine aw_seq ?_
    refine aw_seq ?_
    refine aw_region ?_
    refine awl_runp 1 [0, 1, 5] [] (ob := (True ∧ True)) (st' := (⟨26, [(0, [], .v (.c (.p (.sl (.int .i64)) a))), (1, [], .v (.c (.p (.sl (.int .i64)) b))), (5, [], .v (.c (.p (.int .i64) (0 : Int))))], []⟩ : St)) (by kernel_rfl) ⟨trivial, trivial⟩ ?_
    refine awl_nil ?_
    refine thenQ_n ?_
    refine withJoin (σ := Unit) (fun s => (⟨26, [], []⟩ : St)) (fun s => VC33_k1 K) (fun s h => ?_) (fun rest1 => ?_)
    · have h : VC33_k1 K := h
      unfold VC33_k1 at h
      refine thenQ_n ?_
      refine aw_seq ?_
      refine aw_region ?_
      refine awl_runp 1 [4] [] (ob := (True ∧ True)) (st' := (⟨26, [(4, [], .v (.c (.p .bool true)))], []⟩ : St)) (by kernel_rfl) ⟨trivial, trivial⟩ ?_
      refine awl_nil ?_
      refine thenQ_n ?_
      refine aw_ret ?_
      exact retQ_r (σ := Bool) (R := (fun y => [toV1 .bool y])) (ob := (True ∧ True)) true (by kernel_rfl) ⟨trivial, trivial⟩ h
    · refine aw_block ?_
      refine aw_loop (σ := Int) (fun s => (⟨26, [(0, [], .v (.c (.p (.sl (.int .i64)) a))), (1, [], .v (.c (.p (.sl (.int .i64)) b))), (5, [], .v (.c (.p (.int .i64) s)))], []⟩ : St)) (fun s X => VC33_l1 a b K s X) (s0 := (0 : Int)) (fun i X1 h => ?_) h
      have h : VC33_l1 a b K i X1 := h
      unfold VC33_l1 at h
      refine aw_seq ?_
      refine aw_seq ?_
      refine aw_region ?_
      refine awl_runp 4 [0, 1, 5, 14] [] (ob := (True ∧ True ∧ True ∧ True ∧ True)) (st' := (⟨26, [(0, [], .v (.c (.p (.sl (.int .i64)) a))), (1, [], .v (.c (.p (.sl (.int .i64)) b))), (5, [], .v (.c (.p (.int .i64) i))), (14, [], .v (.c (.p .bool (decide (i < (a.length : Int))))))], []⟩ : St)) (by kernel_rfl) ⟨trivial, trivial, trivial, trivial, trivial⟩ ?_
      refine awl_nil ?_
      refine thenQ_n ?_
      refine aw_cond (b := (decide (i < (a.length : Int)))) (by kernel_rfl) (fun hb => ?_) (fun hb => ?_)
      · have h := h.1 hb
        refine aw_skip ?_
        refine thenQ_n ?_
        refine aw_seq ?_
        refine aw_block ?_
        refine aw_seq ?_
        refine awd_begin [] (by kernel_rfl) ?_
        obtain ⟨o1, o2, h⟩ := h
        refine awd_runp (by kernel_rfl) [0, 1, 2, 3, 4, 5, 6, 7, 8] [0, 1, 5, 25] [] (ob := (True ∧ True ∧ inIdx i a.length ∧ True ∧ True ∧ True ∧ inIdx i b.length ∧ True ∧ True ∧ True)) (done' := [8, 7, 6, 5, 4, 3, 2, 1, 0]) (st' := (⟨26, [(0, [], .v (.c (.p (.sl (.int .i64)) a))), (1, [], .v (.c (.p (.sl (.int .i64)) b))), (5, [], .v (.c (.p (.int .i64) i))), (25, [], .v (.c (.p .bool (!decide ((a.getD (i).toNat (0 : Int)) = (b.getD (i).toNat (0 : Int)))))))], []⟩ : St)) (by kernel_rfl) ⟨trivial, trivial, o1, trivial, trivial, trivial, o2, trivial, trivial, trivial⟩ ?_
        refine awd_done (by kernel_rfl) ?_
        refine thenQ_n ?_
        refine aw_cond (b := (!decide ((a.getD (i).toNat (0 : Int)) = (b.getD (i).toNat (0 : Int))))) (by kernel_rfl) (fun hb => ?_) (fun hb => ?_)
        · have h := h.1 hb
          refine aw_seq ?_
          refine aw_region ?_
          refine awl_runp 1 [4] [] (ob := (True ∧ True)) (st' := (⟨26, [(4, [], .v (.c (.p .bool false)))], []⟩ : St)) (by kernel_rfl) ⟨trivial, trivial⟩ ?_
          refine awl_nil ?_
          refine thenQ_n ?_
          refine aw_ret ?_
          refine blockQ_r ?_
          refine thenQ_r ?_
          refine thenQ_r ?_
          refine blockQ_r ?_
          refine thenQ_r ?_
          exact retQ_r (σ := Bool) (R := (fun y => [toV1 .bool y])) (ob := (True ∧ True)) false (by kernel_rfl) ⟨trivial, trivial⟩ h
        · have h := h.2 hb
          refine aw_skip ?_
          refine blockQ_n ?_
          refine thenQ_n ?_
          refine aw_region ?_
          obtain ⟨o1, h⟩ := h
          refine awl_runp 3 [0, 1, 5] [] (ob := (True ∧ InR (i + (1 : Int)) ∧ True ∧ True)) (st' := (⟨26, [(0, [], .v (.c (.p (.sl (.int .i64)) a))), (1, [], .v (.c (.p (.sl (.int .i64)) b))), (5, [], .v (.c (.p (.int .i64) (i + (1 : Int)))))], []⟩ : St)) (by kernel_rfl) ⟨trivial, o1, trivial, trivial⟩ ?_
          refine awl_nil ?_
          exact thenQ_n ⟨(i + (1 : Int)), rfl, h⟩
      · have h := h.2 hb
        refine aw_conv [.prune [] []] (st' := (⟨26, [], []⟩ : St)) (by kernel_rfl) ?_
        refine aw_exit ?_
        refine thenQ_x ?_
        refine thenQ_x ?_
        refine blockQ_hit ?_
        exact rest1 () h

-- coppicer/coppicerref.Lists
def VC52_k1 (K : Bool → Prop) : Prop :=
  K true

def VC52_l1 (a : (List (List Int))) (b : (List (List Int))) (K : Bool → Prop) (i : Int) (X1 : Int → Prop) : Prop :=
  (((decide (i < (a.length : Int))) = true → (inIdx i a.length ∧ inIdx i b.length ∧ VC33 (a.getD (i).toNat ([] : (List Int))) (b.getD (i).toNat ([] : (List Int))) (fun (ret25v : Bool) => (((!ret25v) = true → K false) ∧ ((!ret25v) = false → (InR (i + (1 : Int)) ∧ X1 (i + (1 : Int)))))))) ∧ ((decide (i < (a.length : Int))) = false → VC52_k1 K))

def VC52 (a : (List (List Int))) (b : (List (List Int))) (K : Bool → Prop) : Prop :=
  (((!decide ((a.length : Int) = (b.length : Int))) = true → K false) ∧ ((!decide ((a.length : Int) = (b.length : Int))) = false → Loop (σ := Int) (fun s X => VC52_l1 a b K s X) (0 : Int)))

set_option maxHeartbeats 4000000 in
theorem link52 (a : (List (List Int))) (b : (List (List Int))) (K : Bool → Prop) (h : VC52 a b K) : ACalls Try.prog 52 [toV1 (.sl (.sl (.int .i64))) a, toV1 (.sl (.sl (.int .i64))) b] (fun res => ∃ y, res = (fun y => [toV1 .bool y]) y ∧ K y) := by
  refine acalls_of_aw [.bool] [.t 4] Try.func52 rfl rfl rfl ?_
  unfold VC52 at h
  refine aw_seq ?_
  refine aw_region ?_
  refine awl_runp 1 [0, 1] [] (ob := (True ∧ True)) (st' := (⟨27, [(0, [], .v (.c (.p (.sl (.sl (.int .i64))) a))), (1, [], .v (.c (.p (.sl (.sl (.int .i64))) b)))], []⟩ : St)) (by kernel_rfl) ⟨trivial, trivial⟩ ?_
  refine awl_nil ?_
  refine thenQ_n ?_
  refine aw_seq ?_
  refine aw_seq ?_
  refine aw_region ?_
  refine awl_runp 5 [0, 1, 10] [] (ob := (True ∧ True ∧ True ∧ True ∧ True ∧ True)) (st' := (⟨27, [(0, [], .v (.c (.p (.sl (.sl (.int .i64))) a))), (1, [], .v (.c (.p (.sl (.sl (.int .i64))) b))), (10, [], .v (.c (.p .bool (!decide ((a.length : Int) = (b.length : Int))))))], []⟩ : St)) (by kernel_rfl) ⟨trivial, trivial, trivial, trivial, trivial, trivial⟩ ?_
  refine awl_nil ?_
  refine thenQ_n ?_
  refine aw_cond (b := (!decide ((a.length : Int) = (b.length : Int)))) (by kernel_rfl) (fun hb => ?_) (fun hb => ?_)
  · have h := h.1 hb
    refine aw_seq ?_
    refine aw_region ?_
    refine awl_runp 1 [4] [] (ob := (True ∧ True)) (st' := (⟨27, [(4, [], .v (.c (.p .bool false)))], []⟩ : St)) (by kernel_rfl) ⟨trivial, trivial⟩ ?_
    refine awl_nil ?_
    refine thenQ_n ?_
    refine aw_ret ?_
    refine thenQ_r ?_
    exact retQ_r (σ := Bool) (R := (fun y => [toV1 .bool y])) (ob := (True ∧ True)) false (by kernel_rfl) ⟨trivial, trivial⟩ h
  · have h := h.2 hb
    refine aw_skip ?_
    refine thenQ_n ?_
    refine aw_seq ?_
    refine aw_seq ?_
    refine aw_region ?_
    refine awl_runp 1 [0, 1, 5] [] (ob := (True ∧ True)) (st' := (⟨27, [(0, [], .v (.c (.p (.sl (.sl (.int .i64))) a))), (1, [], .v (.c (.p (.sl (.sl (.int .i64))) b))), (5, [], .v (.c (.p (.int .i64) (0 : Int))))], []⟩ : St)) (by kernel_rfl) ⟨trivial, trivial⟩ ?_
    refine awl_nil ?_
    refine thenQ_n ?_
    refine withJoin (σ := Unit) (fun s => (⟨27, [], []⟩ : St)) (fun s => VC52_k1 K) (fun s h => ?_) (fun rest1 => ?_)
    · have h : VC52_k1 K := h
      unfold VC52_k1 at h
      refine thenQ_n ?_
      refine aw_seq ?_
      refine aw_region ?_
      refine awl_runp 1 [4] [] (ob := (True ∧ True)) (st' := (⟨27, [(4, [], .v (.c (.p .bool true)))], []⟩ : St)) (by kernel_rfl) ⟨trivial, trivial⟩ ?_
      refine awl_nil ?_
      refine thenQ_n ?_
      refine aw_ret ?_
      exact retQ_r (σ := Bool) (R := (fun y => [toV1 .bool y])) (ob := (True ∧ True)) true (by kernel_rfl) ⟨trivial, trivial⟩ h
    · refine aw_block ?_
      refine aw_loop (σ := Int) (fun s => (⟨27, [(0, [], .v (.c (.p (.sl (.sl (.int .i64))) a))), (1, [], .v (.c (.p (.sl (.sl (.int .i64))) b))), (5, [], .v (.c (.p (.int .i64) s)))], []⟩ : St)) (fun s X => VC52_l1 a b K s X) (s0 := (0 : Int)) (fun i X1 h => ?_) h
      have h : VC52_l1 a b K i X1 := h
      unfold VC52_l1 at h
      refine aw_seq ?_
      refine aw_seq ?_
      refine aw_region ?_
      refine awl_runp 4 [0, 1, 5, 14] [] (ob := (True ∧ True ∧ True ∧ True ∧ True)) (st' := (⟨27, [(0, [], .v (.c (.p (.sl (.sl (.int .i64))) a))), (1, [], .v (.c (.p (.sl (.sl (.int .i64))) b))), (5, [], .v (.c (.p (.int .i64) i))), (14, [], .v (.c (.p .bool (decide (i < (a.length : Int))))))], []⟩ : St)) (by kernel_rfl) ⟨trivial, trivial, trivial, trivial, trivial⟩ ?_
      refine awl_nil ?_
      refine thenQ_n ?_
      refine aw_cond (b := (decide (i < (a.length : Int)))) (by kernel_rfl) (fun hb => ?_) (fun hb => ?_)
      · have h := h.1 hb
        refine aw_skip ?_
        refine thenQ_n ?_
        refine aw_seq ?_
        refine aw_block ?_
        refine aw_seq ?_
        refine awd_begin [] (by kernel_rfl) ?_
        obtain ⟨o1, o2, h⟩ := h
        refine awd_runp (by kernel_rfl) [0, 1, 2, 3, 4, 5, 6, 7] [0, 1, 5, 20, 24] [] (ob := (True ∧ True ∧ inIdx i a.length ∧ True ∧ True ∧ True ∧ inIdx i b.length ∧ True ∧ True)) (done' := [7, 6, 5, 4, 3, 2, 1, 0]) (st' := (⟨27, [(0, [], .v (.c (.p (.sl (.sl (.int .i64))) a))), (1, [], .v (.c (.p (.sl (.sl (.int .i64))) b))), (5, [], .v (.c (.p (.int .i64) i))), (20, [], .v (.c (.p (.sl (.int .i64)) (a.getD (i).toNat ([] : (List Int)))))), (24, [], .v (.c (.p (.sl (.int .i64)) (b.getD (i).toNat ([] : (List Int))))))], []⟩ : St)) (by kernel_rfl) ⟨trivial, trivial, o1, trivial, trivial, trivial, o2, trivial, trivial⟩ ?_
        refine awd_one (i := 8) (by kernel_rfl) ?_
        refine adop_callk (p := []) (l := [toV1 (.sl (.int .i64)) (a.getD (i).toNat ([] : (List Int))), toV1 (.sl (.int .i64)) (b.getD (i).toNat ([] : (List Int)))]) (cl := []) false [.d (.sl (.int .i64)), .d (.sl (.int .i64))] [0, 1, 5, 25] [] (fun (ret25v : Bool) => (((!ret25v) = true → K false) ∧ ((!ret25v) = false → (InR (i + (1 : Int)) ∧ X1 (i + (1 : Int)))))) (fun ret25v => [toV1 .bool ret25v]) (fun ret25v => (⟨27, [(0, [], .v (.c (.p (.sl (.sl (.int .i64))) a))), (1, [], .v (.c (.p (.sl (.sl (.int .i64))) b))), (5, [], .v (.c (.p (.int .i64) i))), (25, [], .v (.c (.p .bool ret25v)))], []⟩ : St)) rfl (by kernel_rfl) rfl (by kernel_rfl) rfl (by kernel_rfl) Try.call33 (by kernel_rfl) (fun ret25v => by kernel_rfl) (fun e => by cases e) (fun hg => link33 (a.getD (i).toNat ([] : (List Int))) (b.getD (i).toNat ([] : (List Int))) _ h) (fun hg => noF hg) (fun ret25v h => ?_)
        have h : (((!ret25v) = true → K false) ∧ ((!ret25v) = false → (InR (i + (1 : Int)) ∧ X1 (i + (1 : Int))))) := h
        refine awd_runp (by kernel_rfl) [9] [0, 1, 5, 26] [] (ob := (True ∧ True)) (done' := [9, 8, 7, 6, 5, 4, 3, 2, 1, 0]) (st' := (⟨27, [(0, [], .v (.c (.p (.sl (.sl (.int .i64))) a))), (1, [], .v (.c (.p (.sl (.sl (.int .i64))) b))), (5, [], .v (.c (.p (.int .i64) i))), (26, [], .v (.c (.p .bool (!ret25v))))], []⟩ : St)) (by kernel_rfl) ⟨trivial, trivial⟩ ?_
        refine awd_done (by kernel_rfl) ?_
        refine thenQ_n ?_
        refine aw_cond (b := (!ret25v)) (by kernel_rfl) (fun hb => ?_) (fun hb => ?_)
        · have h := h.1 hb
          refine aw_seq ?_
          refine aw_region ?_
          refine awl_runp 1 [4] [] (ob := (True ∧ True)) (st' := (⟨27, [(4, [], .v (.c (.p .bool false)))], []⟩ : St)) (by kernel_rfl) ⟨trivial, trivial⟩ ?_
          refine awl_nil ?_
          refine thenQ_n ?_
          refine aw_ret ?_
          refine blockQ_r ?_
          refine thenQ_r ?_
          refine thenQ_r ?_
          refine blockQ_r ?_
          refine thenQ_r ?_
          exact retQ_r (σ := Bool) (R := (fun y => [toV1 .bool y])) (ob := (True ∧ True)) false (by kernel_rfl) ⟨trivial, trivial⟩ h
        · have h := h.2 hb
          refine aw_skip ?_
          refine blockQ_n ?_
          refine thenQ_n ?_
          refine aw_region ?_
          obtain ⟨o1, h⟩ := h
          refine awl_runp 3 [0, 1, 5] [] (ob := (True ∧ InR (i + (1 : Int)) ∧ True ∧ True)) (st' := (⟨27, [(0, [], .v (.c (.p (.sl (.sl (.int .i64))) a))), (1, [], .v (.c (.p (.sl (.sl (.int .i64))) b))), (5, [], .v (.c (.p (.int .i64) (i + (1 : Int)))))], []⟩ : St)) (by kernel_rfl) ⟨trivial, o1, trivial, trivial⟩ ?_
          refine awl_nil ?_
          exact thenQ_n ⟨(i + (1 : Int)), rfl, h⟩
      · have h := h.2 hb
        refine aw_conv [.prune [] []] (st' := (⟨27, [], []⟩ : St)) (by kernel_rfl) ?_
        refine aw_exit ?_
        refine thenQ_x ?_
        refine thenQ_x ?_
        refine blockQ_hit ?_
        exact rest1 () h

end Dec
