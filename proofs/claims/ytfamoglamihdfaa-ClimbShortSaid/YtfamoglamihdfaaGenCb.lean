/-
  Printed by dec2.py: of each function its plain demand, and that the demand gives the contract.
-/
import Derived.Test.YtfamoglamihdfaaGenCa
set_option linter.unusedVariables false
set_option linter.unusedSimpArgs false
set_option maxRecDepth 100000
namespace Dec
open Go Go.RowKit Go.Proofs

-- coppicer/climb.Read
def VC32_k2 (K : (List Int) × Int → Prop) (l30002 : (List Int)) (l30003 : (List Int)) : Prop :=
  (((decide ((0 : Int) < (l30003.length : Int))) = true → K (([] : (List Int)), (5 : Int))) ∧ ((decide ((0 : Int) < (l30003.length : Int))) = false → K (l30002, (0 : Int))))

def VC32_l1 (K : (List Int) × Int → Prop) (l30002 : (List Int)) (l30003 : (List Int)) (X1 : (List Int) × (List Int) → Prop) : Prop :=
  (((decide ((0 : Int) < (l30003.length : Int))) = true → InR ((l30003.length : Int) - (1 : Int))) ∧ ((decide ((0 : Int) < (l30003.length : Int))) = true → inIdx ((l30003.length : Int) - (1 : Int)) l30003.length) ∧ gcall (α := Bool) (decide ((0 : Int) < (l30003.length : Int))) (VC62 (l30003.getD ((((l30003.length : Int) - (1 : Int))).toNat) (0 : Int))) false (fun (ret15v2 : Bool) => ((((decide ((0 : Int) < (l30003.length : Int))) && (!ret15v2)) = true → (InR ((l30003.length : Int) - (1 : Int)) ∧ inIdx ((l30003.length : Int) - (1 : Int)) l30003.length ∧ (roomN (l30002.length + [(l30003.getD ((((l30003.length : Int) - (1 : Int))).toNat) (0 : Int))].length) ∧ (InR ((l30003.length : Int) - (1 : Int)) ∧ (0 ≤ ((l30003.length : Int) - (1 : Int)) ∧ ((l30003.length : Int) - (1 : Int)) ≤ (l30003.length : Int)) ∧ X1 ((l30002 ++ [(l30003.getD ((((l30003.length : Int) - (1 : Int))).toNat) (0 : Int))]), (l30003.take ((((l30003.length : Int) - (1 : Int))).toNat))))))) ∧ (((decide ((0 : Int) < (l30003.length : Int))) && (!ret15v2)) = false → VC32_k2 K l30002 l30003))))

def VC32_k1 (K : (List Int) × Int → Prop) (operand : Bool) (l6140 : (List Int)) (l6160 : (List Int)) : Prop :=
  ((operand = true → K (([] : (List Int)), (5 : Int))) ∧ (operand = false → Loop (σ := (List Int) × (List Int)) (fun s X => VC32_l1 K s.1 s.2 X) (l6140, l6160)))

def VC32_k3 (v22 : Int) (X2 : Bool × Int × (List Int) × (List Int) → Prop) (operand2 : Bool) (l47 : (List Int)) (l61602 : (List Int)) : Prop :=
  (InR (v22 + (1 : Int)) ∧ X2 (operand2, (v22 + (1 : Int)), l47, l61602))

def VC32_k4 (v22 : Int) (X2 : Bool × Int × (List Int) × (List Int) → Prop) (operand2 : Bool) (l54 : (List Int)) (l61402 : (List Int)) : Prop :=
  VC32_k3 v22 X2 operand2 l61402 l54

def VC32_k5 (v22 : Int) (X2 : Bool × Int × (List Int) × (List Int) → Prop) (operand2 : Bool) (l30202 : (List Int)) (l30203 : (List Int)) : Prop :=
  VC32_k4 v22 X2 operand2 l30203 l30202

def VC32_k6 (K : (List Int) × Int → Prop) (operand : Bool) (v22 : Int) (X2 : Bool × Int × (List Int) × (List Int) → Prop) (l30202 : (List Int)) (l30203 : (List Int)) : Prop :=
  (((decide ((l30203.length : Int) = (0 : Int))) = true → K (([] : (List Int)), (5 : Int))) ∧ ((decide ((l30203.length : Int) = (0 : Int))) = false → (InR ((l30203.length : Int) - (1 : Int)) ∧ (0 ≤ ((l30203.length : Int) - (1 : Int)) ∧ ((l30203.length : Int) - (1 : Int)) ≤ (l30203.length : Int)) ∧ VC32_k5 v22 X2 operand l30202 (l30203.take ((((l30203.length : Int) - (1 : Int))).toNat)))))

def VC32_l3 (K : (List Int) × Int → Prop) (operand : Bool) (v22 : Int) (X2 : Bool × Int × (List Int) × (List Int) → Prop) (l30202 : (List Int)) (l30203 : (List Int)) (X3 : (List Int) × (List Int) → Prop) : Prop :=
  (((decide ((0 : Int) < (l30203.length : Int))) = true → InR ((l30203.length : Int) - (1 : Int))) ∧ ((decide ((0 : Int) < (l30203.length : Int))) = true → inIdx ((l30203.length : Int) - (1 : Int)) l30203.length) ∧ gcall (α := Bool) (decide ((0 : Int) < (l30203.length : Int))) (VC60 (l30203.getD ((((l30203.length : Int) - (1 : Int))).toNat) (0 : Int))) false (fun (ret15v2 : Bool) => ((((decide ((0 : Int) < (l30203.length : Int))) && (!ret15v2)) = true → (InR ((l30203.length : Int) - (1 : Int)) ∧ inIdx ((l30203.length : Int) - (1 : Int)) l30203.length ∧ (roomN (l30202.length + [(l30203.getD ((((l30203.length : Int) - (1 : Int))).toNat) (0 : Int))].length) ∧ (InR ((l30203.length : Int) - (1 : Int)) ∧ (0 ≤ ((l30203.length : Int) - (1 : Int)) ∧ ((l30203.length : Int) - (1 : Int)) ≤ (l30203.length : Int)) ∧ X3 ((l30202 ++ [(l30203.getD ((((l30203.length : Int) - (1 : Int))).toNat) (0 : Int))]), (l30203.take ((((l30203.length : Int) - (1 : Int))).toNat))))))) ∧ (((decide ((0 : Int) < (l30203.length : Int))) && (!ret15v2)) = false → VC32_k6 K operand v22 X2 l30202 l30203))))

def VC32_k7 (l : (List Int)) (v22 : Int) (X2 : Bool × Int × (List Int) × (List Int) → Prop) (l30402 : (List Int)) (l30403 : (List Int)) : Prop :=
  (roomN (l30403.length + [(l.getD (v22).toNat (0 : Int))].length) ∧ VC32_k5 v22 X2 true l30402 (l30403 ++ [(l.getD (v22).toNat (0 : Int))]))

def VC32_l4 (ops : (List (Int × Bool))) (l : (List Int)) (v22 : Int) (X2 : Bool × Int × (List Int) × (List Int) → Prop) (l30402 : (List Int)) (l30403 : (List Int)) (X4 : (List Int) × (List Int) → Prop) : Prop :=
  (((decide ((0 : Int) < (l30403.length : Int))) = true → InR ((l30403.length : Int) - (1 : Int))) ∧ ((decide ((0 : Int) < (l30403.length : Int))) = true → inIdx ((l30403.length : Int) - (1 : Int)) l30403.length) ∧ gcall (α := Bool) (decide ((0 : Int) < (l30403.length : Int))) (VC61 (l30403.getD ((((l30403.length : Int) - (1 : Int))).toNat) (0 : Int)) ops (l.getD (v22).toNat (0 : Int))) false (fun (ret15v2 : Bool) => ((((decide ((0 : Int) < (l30403.length : Int))) && (!ret15v2)) = true → (InR ((l30403.length : Int) - (1 : Int)) ∧ inIdx ((l30403.length : Int) - (1 : Int)) l30403.length ∧ (roomN (l30402.length + [(l30403.getD ((((l30403.length : Int) - (1 : Int))).toNat) (0 : Int))].length) ∧ (InR ((l30403.length : Int) - (1 : Int)) ∧ (0 ≤ ((l30403.length : Int) - (1 : Int)) ∧ ((l30403.length : Int) - (1 : Int)) ≤ (l30403.length : Int)) ∧ X4 ((l30402 ++ [(l30403.getD ((((l30403.length : Int) - (1 : Int))).toNat) (0 : Int))]), (l30403.take ((((l30403.length : Int) - (1 : Int))).toNat))))))) ∧ (((decide ((0 : Int) < (l30403.length : Int))) && (!ret15v2)) = false → VC32_k7 l v22 X2 l30402 l30403))))

def VC32_l2 (ops : (List (Int × Bool))) (l : (List Int)) (K : (List Int) × Int → Prop) (operand : Bool) (v22 : Int) (l6140 : (List Int)) (l6160 : (List Int)) (X2 : Bool × Int × (List Int) × (List Int) → Prop) : Prop :=
  (((decide (v22 < (l.length : Int))) = true → (inIdx v22 l.length ∧ (((operand != ((decide ((100 : Int) ≤ (l.getD (v22).toNat (0 : Int)))) || (decide ((l.getD (v22).toNat (0 : Int)) = (-1 : Int))))) = true → K (([] : (List Int)), (5 : Int))) ∧ ((operand != ((decide ((100 : Int) ≤ (l.getD (v22).toNat (0 : Int)))) || (decide ((l.getD (v22).toNat (0 : Int)) = (-1 : Int))))) = false → (((decide ((100 : Int) ≤ (l.getD (v22).toNat (0 : Int)))) = true → (roomN (l6140.length + [(l.getD (v22).toNat (0 : Int))].length) ∧ VC32_k3 v22 X2 false (l6140 ++ [(l.getD (v22).toNat (0 : Int))]) l6160)) ∧ ((decide ((100 : Int) ≤ (l.getD (v22).toNat (0 : Int)))) = false → (((decide ((l.getD (v22).toNat (0 : Int)) = (-1 : Int))) = true → (roomN (l6160.length + [(l.getD (v22).toNat (0 : Int))].length) ∧ VC32_k4 v22 X2 operand (l6160 ++ [(l.getD (v22).toNat (0 : Int))]) l6140)) ∧ ((decide ((l.getD (v22).toNat (0 : Int)) = (-1 : Int))) = false → (((decide ((l.getD (v22).toNat (0 : Int)) = (-2 : Int))) = true → Loop (σ := (List Int) × (List Int)) (fun s X => VC32_l3 K operand v22 X2 s.1 s.2 X) (l6140, l6160)) ∧ ((decide ((l.getD (v22).toNat (0 : Int)) = (-2 : Int))) = false → Loop (σ := (List Int) × (List Int)) (fun s X => VC32_l4 ops l v22 X2 s.1 s.2 X) (l6140, l6160))))))))))) ∧ ((decide (v22 < (l.length : Int))) = false → VC32_k1 K operand l6140 l6160))

def VC32 (ops : (List (Int × Bool))) (l : (List Int)) (K : (List Int) × Int → Prop) : Prop :=
  VC53 ops l true (fun (ret15v : Int) => (((!decide (ret15v = (0 : Int))) = true → K (([] : (List Int)), ret15v)) ∧ ((!decide (ret15v = (0 : Int))) = false → Loop (σ := Bool × Int × (List Int) × (List Int)) (fun s X => VC32_l2 ops l K s.1 s.2.1 s.2.2.1 s.2.2.2 X) (true, (0 : Int), ([] : List Int), ([] : List Int)))))

set_option maxHeartbeats 4000000 in
theorem link32 (ops : (List (Int × Bool))) (l : (List Int)) (K : (List Int) × Int → Prop) (h : VC32 ops l K) : ACalls Try.prog 32 [toV1 (.sl (.pr (.int .i64) .bool)) ops, toV1 (.sl (.int .i64)) l] (fun res => ∃ y, res = (fun y => [toV1 (.sl (.int .i64)) y.1, toV1 (.int .i64) y.2]) y ∧ K y) := by
  refine acalls_of_aw [(.sl (.int .i64)), (.int .i64)] [.t 4, .t 5] Try.func32 rfl rfl rfl ?_
  unfold VC32 at h
  refine aw_seq ?_
  refine aw_region ?_
  refine awl_runp 3 [1, 2] [2] (ob := (True ∧ True ∧ True ∧ True)) (st' := (⟨76, [(1, [], .v (.c (.p (.sl (.int .i64)) l))), (2, [], .v (.c (.ptr 2 0)))], [(2, [], .box [.p (.sl (.pr (.int .i64) .bool)) ops])]⟩ : St)) (by kernel_rfl) ⟨trivial, trivial, trivial, trivial⟩ ?_
  refine awl_nil ?_
  refine thenQ_n ?_
  refine aw_seq ?_
  refine aw_seq ?_
  refine aw_region ?_
  refine awl_runp 2 [1, 2, 13, 14] [2] (ob := (True ∧ True ∧ True)) (st' := (⟨76, [(1, [], .v (.c (.p (.sl (.int .i64)) l))), (2, [], .v (.c (.ptr 2 0))), (13, [], .v (.c (.p (.sl (.pr (.int .i64) .bool)) ops))), (14, [], .v (.c (.p (.sl (.int .i64)) l)))], [(2, [], .box [.p (.sl (.pr (.int .i64) .bool)) ops])]⟩ : St)) (by kernel_rfl) ⟨trivial, trivial, trivial⟩ ?_
  refine awl_callk (p := []) (l := [toV1 (.sl (.pr (.int .i64) .bool)) ops, toV1 (.sl (.int .i64)) l, toV1 .bool true]) (cl := []) false [.d (.sl (.pr (.int .i64) .bool)), .d (.sl (.int .i64)), .d .bool] [1, 2, 15] [2] (fun (ret15v : Int) => (((!decide (ret15v = (0 : Int))) = true → K (([] : (List Int)), ret15v)) ∧ ((!decide (ret15v = (0 : Int))) = false → Loop (σ := Bool × Int × (List Int) × (List Int)) (fun s X => VC32_l2 ops l K s.1 s.2.1 s.2.2.1 s.2.2.2 X) (true, (0 : Int), ([] : List Int), ([] : List Int))))) (fun ret15v => [toV1 (.int .i64) ret15v]) (fun ret15v => (⟨76, [(1, [], .v (.c (.p (.sl (.int .i64)) l))), (2, [], .v (.c (.ptr 2 0))), (15, [], .v (.c (.p (.int .i64) ret15v)))], [(2, [], .box [.p (.sl (.pr (.int .i64) .bool)) ops])]⟩ : St)) (by kernel_rfl) rfl (by kernel_rfl) rfl (by kernel_rfl) Try.call53 (by kernel_rfl) (fun ret15v => by kernel_rfl) (fun e => by cases e) (fun hg => link53 ops l true _ h) (fun hg => noF hg) (fun ret15v h => ?_)
  have h : (((!decide (ret15v = (0 : Int))) = true → K (([] : (List Int)), ret15v)) ∧ ((!decide (ret15v = (0 : Int))) = false → Loop (σ := Bool × Int × (List Int) × (List Int)) (fun s X => VC32_l2 ops l K s.1 s.2.1 s.2.2.1 s.2.2.2 X) (true, (0 : Int), ([] : List Int), ([] : List Int)))) := h
  refine awl_runp 1 [1, 2, 6] [2] (ob := (True ∧ True)) (st' := (⟨76, [(1, [], .v (.c (.p (.sl (.int .i64)) l))), (2, [], .v (.c (.ptr 2 0))), (6, [], .v (.c (.p (.int .i64) ret15v)))], [(2, [], .box [.p (.sl (.pr (.int .i64) .bool)) ops])]⟩ : St)) (by kernel_rfl) ⟨trivial, trivial⟩ ?_
  refine awl_nil ?_
  refine thenQ_n ?_
  refine aw_seq ?_
  refine aw_region ?_
  refine awl_runp 2 [1, 2, 6, 17] [2] (ob := (True ∧ True ∧ True)) (st' := (⟨76, [(1, [], .v (.c (.p (.sl (.int .i64)) l))), (2, [], .v (.c (.ptr 2 0))), (6, [], .v (.c (.p (.int .i64) ret15v))), (17, [], .v (.c (.p .bool (!decide (ret15v = (0 : Int))))))], [(2, [], .box [.p (.sl (.pr (.int .i64) .bool)) ops])]⟩ : St)) (by kernel_rfl) ⟨trivial, trivial, trivial⟩ ?_
  refine awl_nil ?_
  refine thenQ_n ?_
  refine aw_cond (b := (!decide (ret15v = (0 : Int)))) (by kernel_rfl) (fun hb => ?_) (fun hb => ?_)
  · have h := h.1 hb
    refine aw_seq ?_
    refine aw_region ?_
    refine awl_runp 3 [4, 5] [] (ob := (True ∧ True ∧ True ∧ True)) (st' := (⟨76, [(4, [], .v (.c (.nils))), (5, [], .v (.c (.p (.int .i64) ret15v)))], []⟩ : St)) (by kernel_rfl) ⟨trivial, trivial, trivial, trivial⟩ ?_
    refine awl_nil ?_
    refine thenQ_n ?_
    refine aw_ret ?_
    refine thenQ_r ?_
    exact retQ_r (σ := (List Int) × Int) (R := (fun y => [toV1 (.sl (.int .i64)) y.1, toV1 (.int .i64) y.2])) (ob := (True ∧ True ∧ True)) (([] : (List Int)), ret15v) (by kernel_rfl) ⟨trivial, trivial, trivial⟩ h
  · have h := h.2 hb
    refine aw_skip ?_
    refine thenQ_n ?_
    refine aw_seq ?_
    refine aw_region ?_
    refine awl_runp 2 [1, 2, 7, 8] [2, 7, 8] (ob := (True ∧ True ∧ True)) (st' := (⟨76, [(1, [], .v (.c (.p (.sl (.int .i64)) l))), (2, [], .v (.c (.ptr 2 0))), (7, [], .v (.c (.ptr 7 0))), (8, [], .v (.c (.ptr 8 0)))], [(2, [], .box [.p (.sl (.pr (.int .i64) .bool)) ops]), (7, [], .box [.nils]), (8, [], .box [.nils])]⟩ : St)) (by kernel_rfl) ⟨trivial, trivial, trivial⟩ ?_
    refine awl_nil ?_
    refine thenQ_n ?_
    refine aw_seq ?_
    refine aw_region ?_
    refine awl_runp 2 [1, 2, 7, 8, 9] [2, 7, 8] (ob := (True ∧ True ∧ True)) (st' := (⟨76, [(1, [], .v (.c (.p (.sl (.int .i64)) l))), (2, [], .v (.c (.ptr 2 0))), (7, [], .v (.c (.ptr 7 0))), (8, [], .v (.c (.ptr 8 0))), (9, [], .v (.c (.cl 59 [.pt 8 0, .pt 7 0])))], [(2, [], .box [.p (.sl (.pr (.int .i64) .bool)) ops]), (7, [], .box [.nils]), (8, [], .box [.nils])]⟩ : St)) (by kernel_rfl) ⟨trivial, trivial, trivial⟩ ?_
    refine awl_nil ?_
    refine thenQ_n ?_
    refine aw_seq ?_
    refine aw_region ?_
    refine awl_runp 1 [1, 2, 7, 8, 9, 10] [2, 7, 8] (ob := (True ∧ True)) (st' := (⟨76, [(1, [], .v (.c (.p (.sl (.int .i64)) l))), (2, [], .v (.c (.ptr 2 0))), (7, [], .v (.c (.ptr 7 0))), (8, [], .v (.c (.ptr 8 0))), (9, [], .v (.c (.cl 59 [.pt 8 0, .pt 7 0]))), (10, [], .v (.c (.p .bool true)))], [(2, [], .box [.p (.sl (.pr (.int .i64) .bool)) ops]), (7, [], .box [.nils]), (8, [], .box [.nils])]⟩ : St)) (by kernel_rfl) ⟨trivial, trivial⟩ ?_
    refine awl_nil ?_
    refine thenQ_n ?_
    refine aw_seq ?_
    refine aw_seq ?_
    refine aw_region ?_
    refine awl_runp 3 [2, 7, 8, 9, 10, 20, 21, 22] [2, 7, 8] (ob := (True ∧ True ∧ True ∧ True)) (st' := (⟨76, [(2, [], .v (.c (.ptr 2 0))), (7, [], .v (.c (.ptr 7 0))), (8, [], .v (.c (.ptr 8 0))), (9, [], .v (.c (.cl 59 [.pt 8 0, .pt 7 0]))), (10, [], .v (.c (.p .bool true))), (20, [], .v (.c (.p (.sl (.int .i64)) l))), (21, [], .v (.c (.p (.int .i64) (l.length : Int)))), (22, [], .v (.c (.p (.int .i64) (0 : Int))))], [(2, [], .box [.p (.sl (.pr (.int .i64) .bool)) ops]), (7, [], .box [.nils]), (8, [], .box [.nils])]⟩ : St)) (by kernel_rfl) ⟨trivial, trivial, trivial, trivial⟩ ?_
    refine awl_nil ?_
    refine thenQ_n ?_
    refine withJoin (σ := Bool × (List Int) × (List Int)) (fun s => (⟨76, [(7, [], .v (.c (.ptr 7 0))), (8, [], .v (.c (.ptr 8 0))), (9, [], .v (.c (.cl 59 [.pt 8 0, .pt 7 0]))), (10, [], .v (.c (.p .bool s.1)))], [(7, [], .box [.own 6140]), (8, [], .box [.own 6160]), (6140, [], .arr 3 (.int .i64) s.2.1), (6160, [], .arr 3 (.int .i64) s.2.2)]⟩ : St)) (fun s => VC32_k1 K s.1 s.2.1 s.2.2) (fun s h => ?_) (fun rest2 => ?_)
    · obtain ⟨operand, l6140, l6160⟩ := s
      have h : VC32_k1 K operand l6140 l6160 := h
      unfold VC32_k1 at h
      refine thenQ_n ?_
      refine aw_seq ?_
      refine aw_seq ?_
      refine aw_region ?_
      refine awl_runp 1 [7, 8, 9, 69] [7, 8, 6140, 6160] (ob := (True ∧ True)) (st' := (⟨76, [(7, [], .v (.c (.ptr 7 0))), (8, [], .v (.c (.ptr 8 0))), (9, [], .v (.c (.cl 59 [.pt 8 0, .pt 7 0]))), (69, [], .v (.c (.p .bool operand)))], [(7, [], .box [.own 6140]), (8, [], .box [.own 6160]), (6140, [], .arr 3 (.int .i64) l6140), (6160, [], .arr 3 (.int .i64) l6160)]⟩ : St)) (by kernel_rfl) ⟨trivial, trivial⟩ ?_
      refine awl_nil ?_
      refine thenQ_n ?_
      refine aw_cond (b := operand) (by kernel_rfl) (fun hb => ?_) (fun hb => ?_)
      · have h := h.1 hb
        refine aw_seq ?_
        refine aw_region ?_
        refine awl_runp 2 [4, 5] [] (ob := (True ∧ True ∧ True)) (st' := (⟨76, [(4, [], .v (.c (.nils))), (5, [], .v (.c (.p (.int .i64) (5 : Int))))], []⟩ : St)) (by kernel_rfl) ⟨trivial, trivial, trivial⟩ ?_
        refine awl_nil ?_
        refine thenQ_n ?_
        refine aw_ret ?_
        refine thenQ_r ?_
        exact retQ_r (σ := (List Int) × Int) (R := (fun y => [toV1 (.sl (.int .i64)) y.1, toV1 (.int .i64) y.2])) (ob := (True ∧ True ∧ True)) (([] : (List Int)), (5 : Int)) (by kernel_rfl) ⟨trivial, trivial, trivial⟩ h
      · have h := h.2 hb
        refine aw_skip ?_
        refine thenQ_n ?_
        refine aw_seq ?_
        refine aw_region ?_
        refine awl_runp 1 [7, 8, 70] [7, 8, 6140, 6160] (ob := (True ∧ True)) (st' := (⟨76, [(7, [], .v (.c (.ptr 7 0))), (8, [], .v (.c (.ptr 8 0))), (70, [], .v (.c (.cl 59 [.pt 8 0, .pt 7 0])))], [(7, [], .box [.own 6140]), (8, [], .box [.own 6160]), (6140, [], .arr 3 (.int .i64) l6140), (6160, [], .arr 3 (.int .i64) l6160)]⟩ : St)) (by kernel_rfl) ⟨trivial, trivial⟩ ?_
        refine awl_conv [.ren 7 30000, .ren 8 30001, .ren 6140 30002, .ren 6160 30003] (st' := (⟨76, [(7, [], .v (.c (.ptr 30000 0))), (8, [], .v (.c (.ptr 30001 0))), (70, [], .v (.c (.cl 59 [.pt 30001 0, .pt 30000 0])))], [(30000, [], .box [.own 30002]), (30001, [], .box [.own 30003]), (30002, [], .arr 3 (.int .i64) l6140), (30003, [], .arr 3 (.int .i64) l6160)]⟩ : St)) (by kernel_rfl) ?_
        refine awl_inlr [] [30000, 30001, 30002, 30003] [.c (.fn 62 [])] [.c (.ptr 30001 0), .c (.ptr 30000 0)] rfl rfl (by kernel_rfl) rfl (by kernel_rfl) Try.call59 (by kernel_rfl) (by kernel_rfl) Try.func59 rfl rfl (by kernel_rfl) ?_
        refine aw_conv [] (st' := (⟨32, [(0, [], .v (.c (.fn 62 []))), (1, [], .v (.c (.ptr 30001 0))), (2, [], .v (.c (.ptr 30000 0))), (39, [], .v (.c (.ptr 30000 0))), (40, [], .v (.c (.ptr 30001 0))), (102, [], .v (.c (.cl 59 [.pt 30001 0, .pt 30000 0])))], [(30000, [], .box [.own 30002]), (30001, [], .box [.own 30003]), (30002, [], .arr 3 (.int .i64) l6140), (30003, [], .arr 3 (.int .i64) l6160)]⟩ : St)) (by kernel_rfl) ?_
        refine withJoin (σ := (List Int) × (List Int)) (fun s => (⟨32, [(39, [], .v (.c (.ptr 30000 0))), (40, [], .v (.c (.ptr 30001 0)))], [(30000, [], .box [.own 30002]), (30001, [], .box [.own 30003]), (30002, [], .arr 3 (.int .i64) s.1), (30003, [], .arr 3 (.int .i64) s.2)]⟩ : St)) (fun s => VC32_k2 K s.1 s.2) (fun s h => ?_) (fun rest1 => ?_)
        · obtain ⟨l30002, l30003⟩ := s
          have h : VC32_k2 K l30002 l30003 := h
          unfold VC32_k2 at h
          refine inlR_n (.tup []) (by kernel_rfl) rfl ?_
          refine awl_conv [.prune [7, 8] [30000, 30001, 30002, 30003]] (st' := (⟨76, [(7, [], .v (.c (.ptr 30000 0))), (8, [], .v (.c (.ptr 30001 0)))], [(30000, [], .box [.own 30002]), (30001, [], .box [.own 30003]), (30002, [], .arr 3 (.int .i64) l30002), (30003, [], .arr 3 (.int .i64) l30003)]⟩ : St)) (by kernel_rfl) ?_
          refine awl_nil ?_
          refine thenQ_n ?_
          refine aw_seq ?_
          refine aw_seq ?_
          refine aw_region ?_
          refine awl_runp 3 [7, 74] [30000, 30002] (ob := (True ∧ True ∧ True ∧ True)) (st' := (⟨76, [(7, [], .v (.c (.ptr 30000 0))), (74, [], .v (.c (.p .bool (decide ((0 : Int) < (l30003.length : Int))))))], [(30000, [], .box [.own 30002]), (30002, [], .arr 3 (.int .i64) l30002)]⟩ : St)) (by kernel_rfl) ⟨trivial, trivial, trivial, trivial⟩ ?_
          refine awl_nil ?_
          refine thenQ_n ?_
          refine aw_cond (b := (decide ((0 : Int) < (l30003.length : Int)))) (by kernel_rfl) (fun hb => ?_) (fun hb => ?_)
          · have h := h.1 hb
            refine aw_seq ?_
            refine aw_region ?_
            refine awl_runp 2 [4, 5] [] (ob := (True ∧ True ∧ True)) (st' := (⟨76, [(4, [], .v (.c (.nils))), (5, [], .v (.c (.p (.int .i64) (5 : Int))))], []⟩ : St)) (by kernel_rfl) ⟨trivial, trivial, trivial⟩ ?_
            refine awl_nil ?_
            refine thenQ_n ?_
            refine aw_ret ?_
            refine thenQ_r ?_
            exact retQ_r (σ := (List Int) × Int) (R := (fun y => [toV1 (.sl (.int .i64)) y.1, toV1 (.int .i64) y.2])) (ob := (True ∧ True ∧ True)) (([] : (List Int)), (5 : Int)) (by kernel_rfl) ⟨trivial, trivial, trivial⟩ h
          · have h := h.2 hb
            refine aw_skip ?_
            refine thenQ_n ?_
            refine aw_seq ?_
            refine aw_region ?_
            refine awl_runp 3 [4, 5] [30002] (ob := (True ∧ True ∧ True ∧ True)) (st' := (⟨76, [(4, [], .v (.c (.own 30002))), (5, [], .v (.c (.p (.int .i64) (0 : Int))))], [(30002, [], .arr 3 (.int .i64) l30002)]⟩ : St)) (by kernel_rfl) ⟨trivial, trivial, trivial, trivial⟩ ?_
            refine awl_nil ?_
            refine thenQ_n ?_
            refine aw_conv [.freeze 30002] (st' := (⟨76, [(4, [], .v (.c (.p (.sl (.int .i64)) l30002))), (5, [], .v (.c (.p (.int .i64) (0 : Int))))], []⟩ : St)) (by kernel_rfl) ?_
            refine aw_ret ?_
            exact retQ_r (σ := (List Int) × Int) (R := (fun y => [toV1 (.sl (.int .i64)) y.1, toV1 (.int .i64) y.2])) (ob := (True ∧ True ∧ True)) (l30002, (0 : Int)) (by kernel_rfl) ⟨trivial, trivial, trivial⟩ h
        · refine aw_block ?_
          refine aw_conv [.prune [0, 1, 2, 39, 40] [30000, 30001, 30002, 30003]] (st' := (⟨32, [(0, [], .v (.c (.fn 62 []))), (1, [], .v (.c (.ptr 30001 0))), (2, [], .v (.c (.ptr 30000 0))), (39, [], .v (.c (.ptr 30000 0))), (40, [], .v (.c (.ptr 30001 0)))], [(30000, [], .box [.own 30002]), (30001, [], .box [.own 30003]), (30002, [], .arr 3 (.int .i64) l6140), (30003, [], .arr 3 (.int .i64) l6160)]⟩ : St)) (by kernel_rfl) ?_
          refine aw_loop (σ := (List Int) × (List Int)) (fun s => (⟨32, [(0, [], .v (.c (.fn 62 []))), (1, [], .v (.c (.ptr 30001 0))), (2, [], .v (.c (.ptr 30000 0))), (39, [], .v (.c (.ptr 30000 0))), (40, [], .v (.c (.ptr 30001 0)))], [(30000, [], .box [.own 30002]), (30001, [], .box [.own 30003]), (30002, [], .arr 3 (.int .i64) s.1), (30003, [], .arr 3 (.int .i64) s.2)]⟩ : St)) (fun s X => VC32_l1 K s.1 s.2 X) (s0 := (l6140, l6160)) (fun s X1 h => ?_) h
          obtain ⟨l30002, l30003⟩ := s
          have h : VC32_l1 K l30002 l30003 X1 := h
          unfold VC32_l1 at h
          refine aw_seq ?_
          refine aw_seq ?_
          refine aw_region ?_
          obtain ⟨o1, o2, h⟩ := h
          refine awl_runp 11 [0, 1, 2, 7, 8, 14, 39, 40] [30000, 30001, 30002, 30003] (ob := (True ∧ True ∧ True ∧ True ∧ ((decide ((0 : Int) < (l30003.length : Int))) = true → True) ∧ ((decide ((0 : Int) < (l30003.length : Int))) = true → True) ∧ ((decide ((0 : Int) < (l30003.length : Int))) = true → True) ∧ ((decide ((0 : Int) < (l30003.length : Int))) = true → True) ∧ ((decide ((0 : Int) < (l30003.length : Int))) = true → InR ((l30003.length : Int) - (1 : Int))) ∧ ((decide ((0 : Int) < (l30003.length : Int))) = true → inIdx ((l30003.length : Int) - (1 : Int)) l30003.length) ∧ ((decide ((0 : Int) < (l30003.length : Int))) = true → True) ∧ True)) (st' := (⟨32, [(0, [], .v (.c (.fn 62 []))), (1, [], .v (.c (.ptr 30001 0))), (2, [], .v (.c (.ptr 30000 0))), (7, [], .v (.c (.p .bool (decide ((0 : Int) < (l30003.length : Int)))))), (8, [(7, true)], .v (.c (.fn 62 []))), (14, [(7, true)], .v (.c (.p (.int .i64) (l30003.getD ((((l30003.length : Int) - (1 : Int))).toNat) (0 : Int))))), (39, [], .v (.c (.ptr 30000 0))), (40, [], .v (.c (.ptr 30001 0)))], [(30000, [], .box [.own 30002]), (30001, [], .box [.own 30003]), (30002, [], .arr 3 (.int .i64) l30002), (30003, [], .arr 3 (.int .i64) l30003)]⟩ : St)) (by kernel_rfl) ⟨trivial, trivial, trivial, trivial, (fun _ => trivial), (fun _ => trivial), (fun _ => trivial), (fun _ => trivial), o1, o2, (fun _ => trivial), trivial⟩ ?_
          refine awl_callk (p := [(7, true)]) (l := [toV1 (.int .i64) (l30003.getD ((((l30003.length : Int) - (1 : Int))).toNat) (0 : Int))]) (cl := []) false [.d (.int .i64)] [0, 1, 2, 7, 15, 39, 40] [30000, 30001, 30002, 30003] (fun (ret15v2 : Bool) => ((((decide ((0 : Int) < (l30003.length : Int))) && (!ret15v2)) = true → (InR ((l30003.length : Int) - (1 : Int)) ∧ inIdx ((l30003.length : Int) - (1 : Int)) l30003.length ∧ (roomN (l30002.length + [(l30003.getD ((((l30003.length : Int) - (1 : Int))).toNat) (0 : Int))].length) ∧ (InR ((l30003.length : Int) - (1 : Int)) ∧ (0 ≤ ((l30003.length : Int) - (1 : Int)) ∧ ((l30003.length : Int) - (1 : Int)) ≤ (l30003.length : Int)) ∧ X1 ((l30002 ++ [(l30003.getD ((((l30003.length : Int) - (1 : Int))).toNat) (0 : Int))]), (l30003.take ((((l30003.length : Int) - (1 : Int))).toNat))))))) ∧ (((decide ((0 : Int) < (l30003.length : Int))) && (!ret15v2)) = false → VC32_k2 K l30002 l30003))) (fun ret15v2 => [toV1 .bool ret15v2]) (fun ret15v2 => (⟨32, [(0, [], .v (.c (.fn 62 []))), (1, [], .v (.c (.ptr 30001 0))), (2, [], .v (.c (.ptr 30000 0))), (7, [], .v (.c (.p .bool (decide ((0 : Int) < (l30003.length : Int)))))), (15, [(7, true)], .v (.c (.p .bool ret15v2))), (39, [], .v (.c (.ptr 30000 0))), (40, [], .v (.c (.ptr 30001 0)))], [(30000, [], .box [.own 30002]), (30001, [], .box [.own 30003]), (30002, [], .arr 3 (.int .i64) l30002), (30003, [], .arr 3 (.int .i64) l30003)]⟩ : St)) (by kernel_rfl) rfl (by kernel_rfl) rfl (by kernel_rfl) Try.call62 (by kernel_rfl) (fun ret15v2 => by kernel_rfl) (fun e => by cases e) (fun hg => link62 (l30003.getD ((((l30003.length : Int) - (1 : Int))).toNat) (0 : Int)) _ (by have := gcall_T h (show (decide ((0 : Int) < (l30003.length : Int))) = true from hg); exact this)) (fun hg => ⟨false, by have := gcall_F h (show (decide ((0 : Int) < (l30003.length : Int))) = false from hg); exact this⟩) (fun ret15v2 h => ?_)
          have h : ((((decide ((0 : Int) < (l30003.length : Int))) && (!ret15v2)) = true → (InR ((l30003.length : Int) - (1 : Int)) ∧ inIdx ((l30003.length : Int) - (1 : Int)) l30003.length ∧ (roomN (l30002.length + [(l30003.getD ((((l30003.length : Int) - (1 : Int))).toNat) (0 : Int))].length) ∧ (InR ((l30003.length : Int) - (1 : Int)) ∧ (0 ≤ ((l30003.length : Int) - (1 : Int)) ∧ ((l30003.length : Int) - (1 : Int)) ≤ (l30003.length : Int)) ∧ X1 ((l30002 ++ [(l30003.getD ((((l30003.length : Int) - (1 : Int))).toNat) (0 : Int))]), (l30003.take ((((l30003.length : Int) - (1 : Int))).toNat))))))) ∧ (((decide ((0 : Int) < (l30003.length : Int))) && (!ret15v2)) = false → VC32_k2 K l30002 l30003)) := h
          refine awl_runp 2 [0, 1, 2, 17, 39, 40] [30000, 30001, 30002, 30003] (ob := (((decide ((0 : Int) < (l30003.length : Int))) = true → True) ∧ True ∧ True)) (st' := (⟨32, [(0, [], .v (.c (.fn 62 []))), (1, [], .v (.c (.ptr 30001 0))), (2, [], .v (.c (.ptr 30000 0))), (17, [], .v (.c (.p .bool ((decide ((0 : Int) < (l30003.length : Int))) && (!ret15v2))))), (39, [], .v (.c (.ptr 30000 0))), (40, [], .v (.c (.ptr 30001 0)))], [(30000, [], .box [.own 30002]), (30001, [], .box [.own 30003]), (30002, [], .arr 3 (.int .i64) l30002), (30003, [], .arr 3 (.int .i64) l30003)]⟩ : St)) (by kernel_rfl) ⟨(fun _ => trivial), trivial, trivial⟩ ?_
          refine awl_nil ?_
          refine thenQ_n ?_
          refine aw_cond (b := ((decide ((0 : Int) < (l30003.length : Int))) && (!ret15v2))) (by kernel_rfl) (fun hb => ?_) (fun hb => ?_)
          · have h := h.1 hb
            refine aw_skip ?_
            refine thenQ_n ?_
            refine aw_block ?_
            refine aw_seq ?_
            refine awd_begin [30000, 30002] (by kernel_rfl) ?_
            refine awd_memo ((roomN (l30002.length + [(l30003.getD ((((l30003.length : Int) - (1 : Int))).toNat) (0 : Int))].length) ∧ (InR ((l30003.length : Int) - (1 : Int)) ∧ (0 ≤ ((l30003.length : Int) - (1 : Int)) ∧ ((l30003.length : Int) - (1 : Int)) ≤ (l30003.length : Int)) ∧ X1 ((l30002 ++ [(l30003.getD ((((l30003.length : Int) - (1 : Int))).toNat) (0 : Int))]), (l30003.take ((((l30003.length : Int) - (1 : Int))).toNat)))))) [7, 0, 6, 5, 4, 3, 2, 1] (⟨32, [(0, [], .v (.c (.fn 62 []))), (1, [], .v (.c (.ptr 30001 0))), (2, [], .v (.c (.ptr 30000 0))), (18, [], .v (.c (.own 30002))), (25, [], .v (.c (.own 25))), (39, [], .v (.c (.ptr 30000 0))), (40, [], .v (.c (.ptr 30001 0)))], [(25, [], .arr 3 (.int .i64) [(l30003.getD ((((l30003.length : Int) - (1 : Int))).toNat) (0 : Int))]), (30000, [], .box [.own 30002]), (30001, [], .box [.own 30003]), (30002, [], .arr 3 (.int .i64) l30002), (30003, [], .arr 3 (.int .i64) l30003)]⟩ : St) (fun h => ?_) (fun m1 => ?_)
            · refine awd_one (i := 8) (by kernel_rfl) ?_
              obtain ⟨o1, h⟩ := h
              refine adop_stepp [0, 1, 2, 26, 39, 40] [26, 30000, 30001, 30003] (ob := roomN (l30002.length + [(l30003.getD ((((l30003.length : Int) - (1 : Int))).toNat) (0 : Int))].length)) (st' := (⟨32, [(0, [], .v (.c (.fn 62 []))), (1, [], .v (.c (.ptr 30001 0))), (2, [], .v (.c (.ptr 30000 0))), (26, [], .v (.c (.own 26))), (39, [], .v (.c (.ptr 30000 0))), (40, [], .v (.c (.ptr 30001 0)))], [(26, [], .arr 3 (.int .i64) (l30002 ++ [(l30003.getD ((((l30003.length : Int) - (1 : Int))).toNat) (0 : Int))])), (30000, [], .box [.any]), (30001, [], .box [.own 30003]), (30003, [], .arr 3 (.int .i64) l30003)]⟩ : St)) rfl (by kernel_rfl) o1 ?_
              refine awd_one (i := 9) (by kernel_rfl) ?_
              refine adop_stepp [0, 1, 2, 39, 40] [26, 30000, 30001, 30003] (ob := True) (st' := (⟨32, [(0, [], .v (.c (.fn 62 []))), (1, [], .v (.c (.ptr 30001 0))), (2, [], .v (.c (.ptr 30000 0))), (39, [], .v (.c (.ptr 30000 0))), (40, [], .v (.c (.ptr 30001 0)))], [(26, [], .arr 3 (.int .i64) (l30002 ++ [(l30003.getD ((((l30003.length : Int) - (1 : Int))).toNat) (0 : Int))])), (30000, [], .box [.own 26]), (30001, [], .box [.own 30003]), (30003, [], .arr 3 (.int .i64) l30003)]⟩ : St)) rfl (by kernel_rfl) trivial ?_
              refine awd_done (by kernel_rfl) ?_
              refine thenQ_n ?_
              refine aw_region ?_
              obtain ⟨o1, o2, h⟩ := h
              refine awl_runp 6 [0, 1, 2, 39, 40] [26, 30000, 30001, 30003] (ob := (True ∧ True ∧ True ∧ InR ((l30003.length : Int) - (1 : Int)) ∧ (0 ≤ ((l30003.length : Int) - (1 : Int)) ∧ ((l30003.length : Int) - (1 : Int)) ≤ (l30003.length : Int)) ∧ True ∧ True)) (st' := (⟨32, [(0, [], .v (.c (.fn 62 []))), (1, [], .v (.c (.ptr 30001 0))), (2, [], .v (.c (.ptr 30000 0))), (39, [], .v (.c (.ptr 30000 0))), (40, [], .v (.c (.ptr 30001 0)))], [(26, [], .arr 3 (.int .i64) (l30002 ++ [(l30003.getD ((((l30003.length : Int) - (1 : Int))).toNat) (0 : Int))])), (30000, [], .box [.own 26]), (30001, [], .box [.vw 30003 0 ((((l30003.length : Int) - (1 : Int))).toNat) 1]), (30003, [], .arr 3 (.int .i64) l30003)]⟩ : St)) (by kernel_rfl) ⟨trivial, trivial, trivial, o1, o2, trivial, trivial⟩ ?_
              refine awl_conv [.cutB 30001 0, .ren 26 20026, .ren 20026 30002, .prune [0, 1, 2, 39, 40] [30000, 30001, 30002, 30003]] (st' := (⟨32, [(0, [], .v (.c (.fn 62 []))), (1, [], .v (.c (.ptr 30001 0))), (2, [], .v (.c (.ptr 30000 0))), (39, [], .v (.c (.ptr 30000 0))), (40, [], .v (.c (.ptr 30001 0)))], [(30000, [], .box [.own 30002]), (30001, [], .box [.own 30003]), (30002, [], .arr 3 (.int .i64) (l30002 ++ [(l30003.getD ((((l30003.length : Int) - (1 : Int))).toNat) (0 : Int))])), (30003, [], .arr 3 (.int .i64) (l30003.take ((((l30003.length : Int) - (1 : Int))).toNat)))]⟩ : St)) (by kernel_rfl) ?_
              refine awl_nil ?_
              refine blockQ_n ?_
              exact thenQ_n ⟨((l30002 ++ [(l30003.getD ((((l30003.length : Int) - (1 : Int))).toNat) (0 : Int))]), (l30003.take ((((l30003.length : Int) - (1 : Int))).toNat))), rfl, h⟩
            · obtain ⟨o1, o2, h⟩ := h
              refine awd_runp (by kernel_rfl) [1, 2, 3, 4, 5, 6] [0, 1, 2, 24, 39, 40] [30000, 30001, 30002, 30003] (ob := (True ∧ True ∧ True ∧ InR ((l30003.length : Int) - (1 : Int)) ∧ inIdx ((l30003.length : Int) - (1 : Int)) l30003.length ∧ True ∧ True)) (done' := [6, 5, 4, 3, 2, 1]) (st' := (⟨32, [(0, [], .v (.c (.fn 62 []))), (1, [], .v (.c (.ptr 30001 0))), (2, [], .v (.c (.ptr 30000 0))), (24, [], .v (.c (.p (.int .i64) (l30003.getD ((((l30003.length : Int) - (1 : Int))).toNat) (0 : Int))))), (39, [], .v (.c (.ptr 30000 0))), (40, [], .v (.c (.ptr 30001 0)))], [(30000, [], .box [.own 30002]), (30001, [], .box [.own 30003]), (30002, [], .arr 3 (.int .i64) l30002), (30003, [], .arr 3 (.int .i64) l30003)]⟩ : St)) (by kernel_rfl) ⟨trivial, trivial, trivial, o1, o2, trivial, trivial⟩ ?_
              refine awd_two (i := 0) (j := 7) (by kernel_rfl) ?_ ?_
              · have h := h
                refine adop_stepp [0, 1, 2, 18, 24, 39, 40] [30000, 30001, 30002, 30003] (ob := True) (st' := (⟨32, [(0, [], .v (.c (.fn 62 []))), (1, [], .v (.c (.ptr 30001 0))), (2, [], .v (.c (.ptr 30000 0))), (18, [], .v (.c (.own 30002))), (24, [], .v (.c (.p (.int .i64) (l30003.getD ((((l30003.length : Int) - (1 : Int))).toNat) (0 : Int))))), (39, [], .v (.c (.ptr 30000 0))), (40, [], .v (.c (.ptr 30001 0)))], [(30000, [], .box [.own 30002]), (30001, [], .box [.own 30003]), (30002, [], .arr 3 (.int .i64) l30002), (30003, [], .arr 3 (.int .i64) l30003)]⟩ : St)) rfl (by kernel_rfl) trivial ?_
                refine awd_one (i := 7) (by kernel_rfl) ?_
                refine adop_stepp [0, 1, 2, 18, 25, 39, 40] [25, 30000, 30001, 30002, 30003] (ob := True) (st' := (⟨32, [(0, [], .v (.c (.fn 62 []))), (1, [], .v (.c (.ptr 30001 0))), (2, [], .v (.c (.ptr 30000 0))), (18, [], .v (.c (.own 30002))), (25, [], .v (.c (.own 25))), (39, [], .v (.c (.ptr 30000 0))), (40, [], .v (.c (.ptr 30001 0)))], [(25, [], .arr 3 (.int .i64) [(l30003.getD ((((l30003.length : Int) - (1 : Int))).toNat) (0 : Int))]), (30000, [], .box [.own 30002]), (30001, [], .box [.own 30003]), (30002, [], .arr 3 (.int .i64) l30002), (30003, [], .arr 3 (.int .i64) l30003)]⟩ : St)) rfl (by kernel_rfl) trivial ?_
                exact m1 h
              · have h := h
                refine adop_stepp [0, 1, 2, 25, 39, 40] [25, 30000, 30001, 30002, 30003] (ob := True) (st' := (⟨32, [(0, [], .v (.c (.fn 62 []))), (1, [], .v (.c (.ptr 30001 0))), (2, [], .v (.c (.ptr 30000 0))), (25, [], .v (.c (.own 25))), (39, [], .v (.c (.ptr 30000 0))), (40, [], .v (.c (.ptr 30001 0)))], [(25, [], .arr 3 (.int .i64) [(l30003.getD ((((l30003.length : Int) - (1 : Int))).toNat) (0 : Int))]), (30000, [], .box [.own 30002]), (30001, [], .box [.own 30003]), (30002, [], .arr 3 (.int .i64) l30002), (30003, [], .arr 3 (.int .i64) l30003)]⟩ : St)) rfl (by kernel_rfl) trivial ?_
                refine awd_one (i := 0) (by kernel_rfl) ?_
                refine adop_stepp [0, 1, 2, 18, 25, 39, 40] [25, 30000, 30001, 30002, 30003] (ob := True) (st' := (⟨32, [(0, [], .v (.c (.fn 62 []))), (1, [], .v (.c (.ptr 30001 0))), (2, [], .v (.c (.ptr 30000 0))), (18, [], .v (.c (.own 30002))), (25, [], .v (.c (.own 25))), (39, [], .v (.c (.ptr 30000 0))), (40, [], .v (.c (.ptr 30001 0)))], [(25, [], .arr 3 (.int .i64) [(l30003.getD ((((l30003.length : Int) - (1 : Int))).toNat) (0 : Int))]), (30000, [], .box [.own 30002]), (30001, [], .box [.own 30003]), (30002, [], .arr 3 (.int .i64) l30002), (30003, [], .arr 3 (.int .i64) l30003)]⟩ : St)) rfl (by kernel_rfl) trivial ?_
                refine awd_perm [7, 0, 6, 5, 4, 3, 2, 1] (by kernel_rfl) (by kernel_rfl) ?_
                exact m1 h
          · have h := h.2 hb
            refine aw_conv [.prune [39, 40] [30000, 30001, 30002, 30003]] (st' := (⟨32, [(39, [], .v (.c (.ptr 30000 0))), (40, [], .v (.c (.ptr 30001 0)))], [(30000, [], .box [.own 30002]), (30001, [], .box [.own 30003]), (30002, [], .arr 3 (.int .i64) l30002), (30003, [], .arr 3 (.int .i64) l30003)]⟩ : St)) (by kernel_rfl) ?_
            refine aw_exit ?_
            refine thenQ_x ?_
            refine thenQ_x ?_
            refine blockQ_hit ?_
            exact rest1 (l30002, l30003) h
    · refine aw_block ?_
      refine aw_conv [.freezeB 2 (.sl (.pr (.int .i64) .bool)), .nilOwnB 7 0 6140 3 (.int .i64), .nilOwnB 8 0 6160 3 (.int .i64), .prune [2, 7, 8, 9, 10, 20, 21, 22] [7, 8, 6140, 6160]] (st' := (⟨76, [(2, [], .v (.c (.ad (.sl (.pr (.int .i64) .bool)) ops))), (7, [], .v (.c (.ptr 7 0))), (8, [], .v (.c (.ptr 8 0))), (9, [], .v (.c (.cl 59 [.pt 8 0, .pt 7 0]))), (10, [], .v (.c (.p .bool true))), (20, [], .v (.c (.p (.sl (.int .i64)) l))), (21, [], .v (.c (.p (.int .i64) (l.length : Int)))), (22, [], .v (.c (.p (.int .i64) (0 : Int))))], [(7, [], .box [.own 6140]), (8, [], .box [.own 6160]), (6140, [], .arr 3 (.int .i64) ([] : List Int)), (6160, [], .arr 3 (.int .i64) ([] : List Int))]⟩ : St)) (by kernel_rfl) ?_
      refine aw_loop (σ := Bool × Int × (List Int) × (List Int)) (fun s => (⟨76, [(2, [], .v (.c (.ad (.sl (.pr (.int .i64) .bool)) ops))), (7, [], .v (.c (.ptr 7 0))), (8, [], .v (.c (.ptr 8 0))), (9, [], .v (.c (.cl 59 [.pt 8 0, .pt 7 0]))), (10, [], .v (.c (.p .bool s.1))), (20, [], .v (.c (.p (.sl (.int .i64)) l))), (21, [], .v (.c (.p (.int .i64) (l.length : Int)))), (22, [], .v (.c (.p (.int .i64) s.2.1)))], [(7, [], .box [.own 6140]), (8, [], .box [.own 6160]), (6140, [], .arr 3 (.int .i64) s.2.2.1), (6160, [], .arr 3 (.int .i64) s.2.2.2)]⟩ : St)) (fun s X => VC32_l2 ops l K s.1 s.2.1 s.2.2.1 s.2.2.2 X) (s0 := (true, (0 : Int), ([] : List Int), ([] : List Int))) (fun s X2 h => ?_) h
      obtain ⟨operand, v22, l6140, l6160⟩ := s
      have h : VC32_l2 ops l K operand v22 l6140 l6160 X2 := h
      unfold VC32_l2 at h
      refine aw_seq ?_
      refine aw_region ?_
      refine awl_runp 1 [2, 7, 8, 9, 10, 20, 21, 22, 23] [7, 8, 6140, 6160] (ob := (True ∧ True)) (st' := (⟨76, [(2, [], .v (.c (.ad (.sl (.pr (.int .i64) .bool)) ops))), (7, [], .v (.c (.ptr 7 0))), (8, [], .v (.c (.ptr 8 0))), (9, [], .v (.c (.cl 59 [.pt 8 0, .pt 7 0]))), (10, [], .v (.c (.p .bool operand))), (20, [], .v (.c (.p (.sl (.int .i64)) l))), (21, [], .v (.c (.p (.int .i64) (l.length : Int)))), (22, [], .v (.c (.p (.int .i64) v22))), (23, [], .v (.c (.p .bool (decide (v22 < (l.length : Int))))))], [(7, [], .box [.own 6140]), (8, [], .box [.own 6160]), (6140, [], .arr 3 (.int .i64) l6140), (6160, [], .arr 3 (.int .i64) l6160)]⟩ : St)) (by kernel_rfl) ⟨trivial, trivial⟩ ?_
      refine awl_nil ?_
      refine thenQ_n ?_
      refine aw_seq ?_
      refine aw_cond (b := (decide (v22 < (l.length : Int)))) (by kernel_rfl) (fun hb => ?_) (fun hb => ?_)
      · have h := h.1 hb
        refine aw_skip ?_
        refine thenQ_n ?_
        refine aw_seq ?_
        refine aw_block ?_
        refine aw_seq ?_
        refine aw_region ?_
        obtain ⟨o1, h⟩ := h
        refine awl_runp 4 [2, 7, 8, 9, 10, 12, 20, 21, 22] [7, 8, 12, 6140, 6160] (ob := (inIdx v22 l.length ∧ True ∧ True ∧ True ∧ True)) (st' := (⟨76, [(2, [], .v (.c (.ad (.sl (.pr (.int .i64) .bool)) ops))), (7, [], .v (.c (.ptr 7 0))), (8, [], .v (.c (.ptr 8 0))), (9, [], .v (.c (.cl 59 [.pt 8 0, .pt 7 0]))), (10, [], .v (.c (.p .bool operand))), (12, [], .v (.c (.ptr 12 0))), (20, [], .v (.c (.p (.sl (.int .i64)) l))), (21, [], .v (.c (.p (.int .i64) (l.length : Int)))), (22, [], .v (.c (.p (.int .i64) v22)))], [(7, [], .box [.own 6140]), (8, [], .box [.own 6160]), (12, [], .box [.p (.int .i64) (l.getD (v22).toNat (0 : Int))]), (6140, [], .arr 3 (.int .i64) l6140), (6160, [], .arr 3 (.int .i64) l6160)]⟩ : St)) (by kernel_rfl) ⟨o1, trivial, trivial, trivial, trivial⟩ ?_
        refine awl_nil ?_
        refine thenQ_n ?_
        refine aw_seq ?_
        refine aw_seq ?_
        refine aw_region ?_
        refine awl_runp 8 [2, 7, 8, 9, 10, 12, 20, 21, 22, 33] [7, 8, 12, 6140, 6160] (ob := (True ∧ True ∧ True ∧ True ∧ ((decide ((100 : Int) ≤ (l.getD (v22).toNat (0 : Int)))) = false → True) ∧ ((decide ((100 : Int) ≤ (l.getD (v22).toNat (0 : Int)))) = false → True) ∧ True ∧ True ∧ True)) (st' := (⟨76, [(2, [], .v (.c (.ad (.sl (.pr (.int .i64) .bool)) ops))), (7, [], .v (.c (.ptr 7 0))), (8, [], .v (.c (.ptr 8 0))), (9, [], .v (.c (.cl 59 [.pt 8 0, .pt 7 0]))), (10, [], .v (.c (.p .bool operand))), (12, [], .v (.c (.ptr 12 0))), (20, [], .v (.c (.p (.sl (.int .i64)) l))), (21, [], .v (.c (.p (.int .i64) (l.length : Int)))), (22, [], .v (.c (.p (.int .i64) v22))), (33, [], .v (.c (.p .bool (operand != ((decide ((100 : Int) ≤ (l.getD (v22).toNat (0 : Int)))) || (decide ((l.getD (v22).toNat (0 : Int)) = (-1 : Int))))))))], [(7, [], .box [.own 6140]), (8, [], .box [.own 6160]), (12, [], .box [.p (.int .i64) (l.getD (v22).toNat (0 : Int))]), (6140, [], .arr 3 (.int .i64) l6140), (6160, [], .arr 3 (.int .i64) l6160)]⟩ : St)) (by kernel_rfl) ⟨trivial, trivial, trivial, trivial, (fun _ => trivial), (fun _ => trivial), trivial, trivial, trivial⟩ ?_
        refine awl_nil ?_
        refine thenQ_n ?_
        refine aw_cond (b := (operand != ((decide ((100 : Int) ≤ (l.getD (v22).toNat (0 : Int)))) || (decide ((l.getD (v22).toNat (0 : Int)) = (-1 : Int)))))) (by kernel_rfl) (fun hb => ?_) (fun hb => ?_)
        · have h := h.1 hb
          refine aw_seq ?_
          refine aw_region ?_
          refine awl_runp 2 [4, 5] [] (ob := (True ∧ True ∧ True)) (st' := (⟨76, [(4, [], .v (.c (.nils))), (5, [], .v (.c (.p (.int .i64) (5 : Int))))], []⟩ : St)) (by kernel_rfl) ⟨trivial, trivial, trivial⟩ ?_
          refine awl_nil ?_
          refine thenQ_n ?_
          refine aw_ret ?_
          refine thenQ_r ?_
          refine blockQ_r ?_
          refine thenQ_r ?_
          refine thenQ_r ?_
          refine blockQ_r ?_
          refine thenQ_r ?_
          exact retQ_r (σ := (List Int) × Int) (R := (fun y => [toV1 (.sl (.int .i64)) y.1, toV1 (.int .i64) y.2])) (ob := (True ∧ True ∧ True)) (([] : (List Int)), (5 : Int)) (by kernel_rfl) ⟨trivial, trivial, trivial⟩ h
        · have h := h.2 hb
          refine aw_skip ?_
          refine thenQ_n ?_
          refine aw_block ?_
          refine aw_seq ?_
          refine aw_region ?_
          refine awl_runp 3 [2, 7, 8, 9, 10, 12, 20, 21, 22, 41] [7, 8, 12, 6140, 6160] (ob := (True ∧ True ∧ True ∧ True)) (st' := (⟨76, [(2, [], .v (.c (.ad (.sl (.pr (.int .i64) .bool)) ops))), (7, [], .v (.c (.ptr 7 0))), (8, [], .v (.c (.ptr 8 0))), (9, [], .v (.c (.cl 59 [.pt 8 0, .pt 7 0]))), (10, [], .v (.c (.p .bool operand))), (12, [], .v (.c (.ptr 12 0))), (20, [], .v (.c (.p (.sl (.int .i64)) l))), (21, [], .v (.c (.p (.int .i64) (l.length : Int)))), (22, [], .v (.c (.p (.int .i64) v22))), (41, [], .v (.c (.p .bool (decide ((100 : Int) ≤ (l.getD (v22).toNat (0 : Int)))))))], [(7, [], .box [.own 6140]), (8, [], .box [.own 6160]), (12, [], .box [.p (.int .i64) (l.getD (v22).toNat (0 : Int))]), (6140, [], .arr 3 (.int .i64) l6140), (6160, [], .arr 3 (.int .i64) l6160)]⟩ : St)) (by kernel_rfl) ⟨trivial, trivial, trivial, trivial⟩ ?_
          refine awl_nil ?_
          refine thenQ_n ?_
          refine withJoin (σ := Bool × (List Int) × (List Int)) (fun s => (⟨76, [(2, [], .v (.c (.ad (.sl (.pr (.int .i64) .bool)) ops))), (7, [], .v (.c (.ptr 7 0))), (8, [], .v (.c (.ptr 8 0))), (9, [], .v (.c (.cl 59 [.pt 8 0, .pt 7 0]))), (10, [], .v (.c (.p .bool s.1))), (20, [], .v (.c (.p (.sl (.int .i64)) l))), (21, [], .v (.c (.p (.int .i64) (l.length : Int)))), (22, [], .v (.c (.p (.int .i64) v22)))], [(7, [], .box [.own 47]), (8, [], .box [.own 6160]), (47, [], .arr 3 (.int .i64) s.2.1), (6160, [], .arr 3 (.int .i64) s.2.2)]⟩ : St)) (fun s => VC32_k3 v22 X2 s.1 s.2.1 s.2.2) (fun s h => ?_) (fun rest3 => ?_)
          · obtain ⟨operand2, l47, l61602⟩ := s
            have h : VC32_k3 v22 X2 operand2 l47 l61602 := h
            unfold VC32_k3 at h
            refine blockQ_n ?_
            refine blockQ_n ?_
            refine thenQ_n ?_
            refine aw_region ?_
            obtain ⟨o1, h⟩ := h
            refine awl_runp 2 [2, 7, 8, 9, 10, 20, 21, 22] [7, 8, 47, 6160] (ob := (InR (v22 + (1 : Int)) ∧ True ∧ True)) (st' := (⟨76, [(2, [], .v (.c (.ad (.sl (.pr (.int .i64) .bool)) ops))), (7, [], .v (.c (.ptr 7 0))), (8, [], .v (.c (.ptr 8 0))), (9, [], .v (.c (.cl 59 [.pt 8 0, .pt 7 0]))), (10, [], .v (.c (.p .bool operand2))), (20, [], .v (.c (.p (.sl (.int .i64)) l))), (21, [], .v (.c (.p (.int .i64) (l.length : Int)))), (22, [], .v (.c (.p (.int .i64) (v22 + (1 : Int)))))], [(7, [], .box [.own 47]), (8, [], .box [.own 6160]), (47, [], .arr 3 (.int .i64) l47), (6160, [], .arr 3 (.int .i64) l61602)]⟩ : St)) (by kernel_rfl) ⟨o1, trivial, trivial⟩ ?_
            refine awl_conv [.ren 47 20047, .ren 20047 6140] (st' := (⟨76, [(2, [], .v (.c (.ad (.sl (.pr (.int .i64) .bool)) ops))), (7, [], .v (.c (.ptr 7 0))), (8, [], .v (.c (.ptr 8 0))), (9, [], .v (.c (.cl 59 [.pt 8 0, .pt 7 0]))), (10, [], .v (.c (.p .bool operand2))), (20, [], .v (.c (.p (.sl (.int .i64)) l))), (21, [], .v (.c (.p (.int .i64) (l.length : Int)))), (22, [], .v (.c (.p (.int .i64) (v22 + (1 : Int)))))], [(7, [], .box [.own 6140]), (8, [], .box [.own 6160]), (6140, [], .arr 3 (.int .i64) l47), (6160, [], .arr 3 (.int .i64) l61602)]⟩ : St)) (by kernel_rfl) ?_
            refine awl_nil ?_
            exact thenQ_n ⟨(operand2, (v22 + (1 : Int)), l47, l61602), rfl, h⟩
          · refine aw_cond (b := (decide ((100 : Int) ≤ (l.getD (v22).toNat (0 : Int))))) (by kernel_rfl) (fun hb => ?_) (fun hb => ?_)
            · have h := h.1 hb
              refine aw_seq ?_
              refine aw_region ?_
              obtain ⟨o1, h⟩ := h
              refine awl_runp 5 [2, 7, 8, 9, 20, 21, 22] [7, 8, 47, 6160] (ob := (True ∧ True ∧ True ∧ roomN (l6140.length + [(l.getD (v22).toNat (0 : Int))].length) ∧ True ∧ True)) (st' := (⟨76, [(2, [], .v (.c (.ad (.sl (.pr (.int .i64) .bool)) ops))), (7, [], .v (.c (.ptr 7 0))), (8, [], .v (.c (.ptr 8 0))), (9, [], .v (.c (.cl 59 [.pt 8 0, .pt 7 0]))), (20, [], .v (.c (.p (.sl (.int .i64)) l))), (21, [], .v (.c (.p (.int .i64) (l.length : Int)))), (22, [], .v (.c (.p (.int .i64) v22)))], [(7, [], .box [.own 47]), (8, [], .box [.own 6160]), (47, [], .arr 3 (.int .i64) (l6140 ++ [(l.getD (v22).toNat (0 : Int))])), (6160, [], .arr 3 (.int .i64) l6160)]⟩ : St)) (by kernel_rfl) ⟨trivial, trivial, trivial, o1, trivial, trivial⟩ ?_
              refine awl_nil ?_
              refine thenQ_n ?_
              refine aw_region ?_
              refine awl_runp 1 [2, 7, 8, 9, 10, 20, 21, 22] [7, 8, 47, 6160] (ob := (True ∧ True)) (st' := (⟨76, [(2, [], .v (.c (.ad (.sl (.pr (.int .i64) .bool)) ops))), (7, [], .v (.c (.ptr 7 0))), (8, [], .v (.c (.ptr 8 0))), (9, [], .v (.c (.cl 59 [.pt 8 0, .pt 7 0]))), (10, [], .v (.c (.p .bool false))), (20, [], .v (.c (.p (.sl (.int .i64)) l))), (21, [], .v (.c (.p (.int .i64) (l.length : Int)))), (22, [], .v (.c (.p (.int .i64) v22)))], [(7, [], .box [.own 47]), (8, [], .box [.own 6160]), (47, [], .arr 3 (.int .i64) (l6140 ++ [(l.getD (v22).toNat (0 : Int))])), (6160, [], .arr 3 (.int .i64) l6160)]⟩ : St)) (by kernel_rfl) ⟨trivial, trivial⟩ ?_
              refine awl_nil ?_
              exact rest3 (false, (l6140 ++ [(l.getD (v22).toNat (0 : Int))]), l6160) h
            · have h := h.2 hb
              refine aw_seq ?_
              refine aw_region ?_
              refine awl_runp 3 [2, 7, 8, 9, 10, 12, 20, 21, 22, 48] [7, 8, 12, 6140, 6160] (ob := (True ∧ True ∧ True ∧ True)) (st' := (⟨76, [(2, [], .v (.c (.ad (.sl (.pr (.int .i64) .bool)) ops))), (7, [], .v (.c (.ptr 7 0))), (8, [], .v (.c (.ptr 8 0))), (9, [], .v (.c (.cl 59 [.pt 8 0, .pt 7 0]))), (10, [], .v (.c (.p .bool operand))), (12, [], .v (.c (.ptr 12 0))), (20, [], .v (.c (.p (.sl (.int .i64)) l))), (21, [], .v (.c (.p (.int .i64) (l.length : Int)))), (22, [], .v (.c (.p (.int .i64) v22))), (48, [], .v (.c (.p .bool (decide ((l.getD (v22).toNat (0 : Int)) = (-1 : Int))))))], [(7, [], .box [.own 6140]), (8, [], .box [.own 6160]), (12, [], .box [.p (.int .i64) (l.getD (v22).toNat (0 : Int))]), (6140, [], .arr 3 (.int .i64) l6140), (6160, [], .arr 3 (.int .i64) l6160)]⟩ : St)) (by kernel_rfl) ⟨trivial, trivial, trivial, trivial⟩ ?_
              refine awl_nil ?_
              refine thenQ_n ?_
              refine withJoin (σ := Bool × (List Int) × (List Int)) (fun s => (⟨76, [(2, [], .v (.c (.ad (.sl (.pr (.int .i64) .bool)) ops))), (7, [], .v (.c (.ptr 7 0))), (8, [], .v (.c (.ptr 8 0))), (9, [], .v (.c (.cl 59 [.pt 8 0, .pt 7 0]))), (10, [], .v (.c (.p .bool s.1))), (20, [], .v (.c (.p (.sl (.int .i64)) l))), (21, [], .v (.c (.p (.int .i64) (l.length : Int)))), (22, [], .v (.c (.p (.int .i64) v22)))], [(7, [], .box [.own 47]), (8, [], .box [.own 6160]), (47, [], .arr 3 (.int .i64) s.2.2), (6160, [], .arr 3 (.int .i64) s.2.1)]⟩ : St)) (fun s => VC32_k4 v22 X2 s.1 s.2.1 s.2.2) (fun s h => ?_) (fun rest4 => ?_)
              · obtain ⟨operand2, l54, l61402⟩ := s
                have h : VC32_k4 v22 X2 operand2 l54 l61402 := h
                unfold VC32_k4 at h
                exact rest3 (operand2, l61402, l54) h
              · refine aw_cond (b := (decide ((l.getD (v22).toNat (0 : Int)) = (-1 : Int)))) (by kernel_rfl) (fun hb => ?_) (fun hb => ?_)
                · have h := h.1 hb
                  refine aw_region ?_
                  obtain ⟨o1, h⟩ := h
                  refine awl_runp 5 [2, 7, 8, 9, 10, 20, 21, 22] [7, 8, 54, 6140] (ob := (True ∧ True ∧ True ∧ roomN (l6160.length + [(l.getD (v22).toNat (0 : Int))].length) ∧ True ∧ True)) (st' := (⟨76, [(2, [], .v (.c (.ad (.sl (.pr (.int .i64) .bool)) ops))), (7, [], .v (.c (.ptr 7 0))), (8, [], .v (.c (.ptr 8 0))), (9, [], .v (.c (.cl 59 [.pt 8 0, .pt 7 0]))), (10, [], .v (.c (.p .bool operand))), (20, [], .v (.c (.p (.sl (.int .i64)) l))), (21, [], .v (.c (.p (.int .i64) (l.length : Int)))), (22, [], .v (.c (.p (.int .i64) v22)))], [(7, [], .box [.own 6140]), (8, [], .box [.own 54]), (54, [], .arr 3 (.int .i64) (l6160 ++ [(l.getD (v22).toNat (0 : Int))])), (6140, [], .arr 3 (.int .i64) l6140)]⟩ : St)) (by kernel_rfl) ⟨trivial, trivial, trivial, o1, trivial, trivial⟩ ?_
                  refine awl_conv [.ren 6140 26140, .ren 54 20054, .ren 26140 47, .ren 20054 6160, .prune [2, 7, 8, 9, 10, 20, 21, 22] [7, 8, 47, 6160]] (st' := (⟨76, [(2, [], .v (.c (.ad (.sl (.pr (.int .i64) .bool)) ops))), (7, [], .v (.c (.ptr 7 0))), (8, [], .v (.c (.ptr 8 0))), (9, [], .v (.c (.cl 59 [.pt 8 0, .pt 7 0]))), (10, [], .v (.c (.p .bool operand))), (20, [], .v (.c (.p (.sl (.int .i64)) l))), (21, [], .v (.c (.p (.int .i64) (l.length : Int)))), (22, [], .v (.c (.p (.int .i64) v22)))], [(7, [], .box [.own 47]), (8, [], .box [.own 6160]), (47, [], .arr 3 (.int .i64) l6140), (6160, [], .arr 3 (.int .i64) (l6160 ++ [(l.getD (v22).toNat (0 : Int))]))]⟩ : St)) (by kernel_rfl) ?_
                  refine awl_nil ?_
                  exact rest4 (operand, (l6160 ++ [(l.getD (v22).toNat (0 : Int))]), l6140) h
                · have h := h.2 hb
                  refine aw_seq ?_
                  refine aw_region ?_
                  refine awl_runp 3 [2, 7, 8, 9, 10, 12, 20, 21, 22, 55] [7, 8, 12, 6140, 6160] (ob := (True ∧ True ∧ True ∧ True)) (st' := (⟨76, [(2, [], .v (.c (.ad (.sl (.pr (.int .i64) .bool)) ops))), (7, [], .v (.c (.ptr 7 0))), (8, [], .v (.c (.ptr 8 0))), (9, [], .v (.c (.cl 59 [.pt 8 0, .pt 7 0]))), (10, [], .v (.c (.p .bool operand))), (12, [], .v (.c (.ptr 12 0))), (20, [], .v (.c (.p (.sl (.int .i64)) l))), (21, [], .v (.c (.p (.int .i64) (l.length : Int)))), (22, [], .v (.c (.p (.int .i64) v22))), (55, [], .v (.c (.p .bool (decide ((l.getD (v22).toNat (0 : Int)) = (-2 : Int))))))], [(7, [], .box [.own 6140]), (8, [], .box [.own 6160]), (12, [], .box [.p (.int .i64) (l.getD (v22).toNat (0 : Int))]), (6140, [], .arr 3 (.int .i64) l6140), (6160, [], .arr 3 (.int .i64) l6160)]⟩ : St)) (by kernel_rfl) ⟨trivial, trivial, trivial, trivial⟩ ?_
                  refine awl_nil ?_
                  refine thenQ_n ?_
                  refine withJoin (σ := Bool × (List Int) × (List Int)) (fun s => (⟨76, [(2, [], .v (.c (.ad (.sl (.pr (.int .i64) .bool)) ops))), (7, [], .v (.c (.ptr 7 0))), (8, [], .v (.c (.ptr 8 0))), (9, [], .v (.c (.cl 59 [.pt 8 0, .pt 7 0]))), (10, [], .v (.c (.p .bool s.1))), (20, [], .v (.c (.p (.sl (.int .i64)) l))), (21, [], .v (.c (.p (.int .i64) (l.length : Int)))), (22, [], .v (.c (.p (.int .i64) v22)))], [(7, [], .box [.own 47]), (8, [], .box [.own 6160]), (47, [], .arr 3 (.int .i64) s.2.1), (6160, [], .arr 3 (.int .i64) s.2.2)]⟩ : St)) (fun s => VC32_k5 v22 X2 s.1 s.2.1 s.2.2) (fun s h => ?_) (fun rest5 => ?_)
                  · obtain ⟨operand2, l30202, l30203⟩ := s
                    have h : VC32_k5 v22 X2 operand2 l30202 l30203 := h
                    unfold VC32_k5 at h
                    exact rest4 (operand2, l30203, l30202) h
                  · refine aw_cond (b := (decide ((l.getD (v22).toNat (0 : Int)) = (-2 : Int)))) (by kernel_rfl) (fun hb => ?_) (fun hb => ?_)
                    · have h := h.1 hb
                      refine aw_seq ?_
                      refine aw_region ?_
                      refine awl_runp 1 [2, 7, 8, 9, 10, 20, 21, 22, 58] [7, 8, 6140, 6160] (ob := (True ∧ True)) (st' := (⟨76, [(2, [], .v (.c (.ad (.sl (.pr (.int .i64) .bool)) ops))), (7, [], .v (.c (.ptr 7 0))), (8, [], .v (.c (.ptr 8 0))), (9, [], .v (.c (.cl 59 [.pt 8 0, .pt 7 0]))), (10, [], .v (.c (.p .bool operand))), (20, [], .v (.c (.p (.sl (.int .i64)) l))), (21, [], .v (.c (.p (.int .i64) (l.length : Int)))), (22, [], .v (.c (.p (.int .i64) v22))), (58, [], .v (.c (.cl 59 [.pt 8 0, .pt 7 0])))], [(7, [], .box [.own 6140]), (8, [], .box [.own 6160]), (6140, [], .arr 3 (.int .i64) l6140), (6160, [], .arr 3 (.int .i64) l6160)]⟩ : St)) (by kernel_rfl) ⟨trivial, trivial⟩ ?_
                      refine awl_conv [.ren 7 30200, .ren 8 30201, .ren 6140 30202, .ren 6160 30203] (st' := (⟨76, [(2, [], .v (.c (.ad (.sl (.pr (.int .i64) .bool)) ops))), (7, [], .v (.c (.ptr 30200 0))), (8, [], .v (.c (.ptr 30201 0))), (9, [], .v (.c (.cl 59 [.pt 30201 0, .pt 30200 0]))), (10, [], .v (.c (.p .bool operand))), (20, [], .v (.c (.p (.sl (.int .i64)) l))), (21, [], .v (.c (.p (.int .i64) (l.length : Int)))), (22, [], .v (.c (.p (.int .i64) v22))), (58, [], .v (.c (.cl 59 [.pt 30201 0, .pt 30200 0])))], [(30200, [], .box [.own 30202]), (30201, [], .box [.own 30203]), (30202, [], .arr 3 (.int .i64) l6140), (30203, [], .arr 3 (.int .i64) l6160)]⟩ : St)) (by kernel_rfl) ?_
                      refine awl_inlr [] [30200, 30201, 30202, 30203] [.c (.fn 60 [])] [.c (.ptr 30201 0), .c (.ptr 30200 0)] rfl rfl (by kernel_rfl) rfl (by kernel_rfl) Try.call59 (by kernel_rfl) (by kernel_rfl) Try.func59 rfl rfl (by kernel_rfl) ?_
                      refine aw_conv [] (st' := (⟨32, [(0, [], .v (.c (.fn 60 []))), (1, [], .v (.c (.ptr 30201 0))), (2, [], .v (.c (.ptr 30200 0))), (34, [], .v (.c (.ad (.sl (.pr (.int .i64) .bool)) ops))), (39, [], .v (.c (.ptr 30200 0))), (40, [], .v (.c (.ptr 30201 0))), (41, [], .v (.c (.cl 59 [.pt 30201 0, .pt 30200 0]))), (42, [], .v (.c (.p .bool operand))), (52, [], .v (.c (.p (.sl (.int .i64)) l))), (53, [], .v (.c (.p (.int .i64) (l.length : Int)))), (54, [], .v (.c (.p (.int .i64) v22))), (90, [], .v (.c (.cl 59 [.pt 30201 0, .pt 30200 0])))], [(30200, [], .box [.own 30202]), (30201, [], .box [.own 30203]), (30202, [], .arr 3 (.int .i64) l6140), (30203, [], .arr 3 (.int .i64) l6160)]⟩ : St)) (by kernel_rfl) ?_
                      refine withJoin (σ := (List Int) × (List Int)) (fun s => (⟨32, [(34, [], .v (.c (.ad (.sl (.pr (.int .i64) .bool)) ops))), (39, [], .v (.c (.ptr 30200 0))), (40, [], .v (.c (.ptr 30201 0))), (41, [], .v (.c (.cl 59 [.pt 30201 0, .pt 30200 0]))), (42, [], .v (.c (.p .bool operand))), (52, [], .v (.c (.p (.sl (.int .i64)) l))), (53, [], .v (.c (.p (.int .i64) (l.length : Int)))), (54, [], .v (.c (.p (.int .i64) v22)))], [(30200, [], .box [.own 30202]), (30201, [], .box [.own 30203]), (30202, [], .arr 3 (.int .i64) s.1), (30203, [], .arr 3 (.int .i64) s.2)]⟩ : St)) (fun s => VC32_k6 K operand v22 X2 s.1 s.2) (fun s h => ?_) (fun rest6 => ?_)
                      · obtain ⟨l30202, l30203⟩ := s
                        have h : VC32_k6 K operand v22 X2 l30202 l30203 := h
                        unfold VC32_k6 at h
                        refine inlR_n (.tup []) (by kernel_rfl) rfl ?_
                        refine awl_conv [.prune [2, 7, 8, 9, 10, 20, 21, 22] [30200, 30201, 30202, 30203]] (st' := (⟨76, [(2, [], .v (.c (.ad (.sl (.pr (.int .i64) .bool)) ops))), (7, [], .v (.c (.ptr 30200 0))), (8, [], .v (.c (.ptr 30201 0))), (9, [], .v (.c (.cl 59 [.pt 30201 0, .pt 30200 0]))), (10, [], .v (.c (.p .bool operand))), (20, [], .v (.c (.p (.sl (.int .i64)) l))), (21, [], .v (.c (.p (.int .i64) (l.length : Int)))), (22, [], .v (.c (.p (.int .i64) v22)))], [(30200, [], .box [.own 30202]), (30201, [], .box [.own 30203]), (30202, [], .arr 3 (.int .i64) l30202), (30203, [], .arr 3 (.int .i64) l30203)]⟩ : St)) (by kernel_rfl) ?_
                        refine awl_nil ?_
                        refine thenQ_n ?_
                        refine aw_seq ?_
                        refine aw_seq ?_
                        refine aw_region ?_
                        refine awl_runp 3 [2, 7, 8, 9, 10, 20, 21, 22, 62] [30200, 30201, 30202, 30203] (ob := (True ∧ True ∧ True ∧ True)) (st' := (⟨76, [(2, [], .v (.c (.ad (.sl (.pr (.int .i64) .bool)) ops))), (7, [], .v (.c (.ptr 30200 0))), (8, [], .v (.c (.ptr 30201 0))), (9, [], .v (.c (.cl 59 [.pt 30201 0, .pt 30200 0]))), (10, [], .v (.c (.p .bool operand))), (20, [], .v (.c (.p (.sl (.int .i64)) l))), (21, [], .v (.c (.p (.int .i64) (l.length : Int)))), (22, [], .v (.c (.p (.int .i64) v22))), (62, [], .v (.c (.p .bool (decide ((l30203.length : Int) = (0 : Int))))))], [(30200, [], .box [.own 30202]), (30201, [], .box [.own 30203]), (30202, [], .arr 3 (.int .i64) l30202), (30203, [], .arr 3 (.int .i64) l30203)]⟩ : St)) (by kernel_rfl) ⟨trivial, trivial, trivial, trivial⟩ ?_
                        refine awl_nil ?_
                        refine thenQ_n ?_
                        refine aw_cond (b := (decide ((l30203.length : Int) = (0 : Int)))) (by kernel_rfl) (fun hb => ?_) (fun hb => ?_)
                        · have h := h.1 hb
                          refine aw_seq ?_
                          refine aw_region ?_
                          refine awl_runp 2 [4, 5] [] (ob := (True ∧ True ∧ True)) (st' := (⟨76, [(4, [], .v (.c (.nils))), (5, [], .v (.c (.p (.int .i64) (5 : Int))))], []⟩ : St)) (by kernel_rfl) ⟨trivial, trivial, trivial⟩ ?_
                          refine awl_nil ?_
                          refine thenQ_n ?_
                          refine aw_ret ?_
                          refine thenQ_r ?_
                          refine blockQ_r ?_
                          refine blockQ_r ?_
                          refine thenQ_r ?_
                          refine thenQ_r ?_
                          refine blockQ_r ?_
                          refine thenQ_r ?_
                          exact retQ_r (σ := (List Int) × Int) (R := (fun y => [toV1 (.sl (.int .i64)) y.1, toV1 (.int .i64) y.2])) (ob := (True ∧ True ∧ True)) (([] : (List Int)), (5 : Int)) (by kernel_rfl) ⟨trivial, trivial, trivial⟩ h
                        · have h := h.2 hb
                          refine aw_skip ?_
                          refine thenQ_n ?_
                          refine aw_region ?_
                          obtain ⟨o1, o2, h⟩ := h
                          refine awl_runp 6 [2, 7, 8, 9, 10, 20, 21, 22] [30200, 30201, 30202, 30203] (ob := (True ∧ True ∧ True ∧ InR ((l30203.length : Int) - (1 : Int)) ∧ (0 ≤ ((l30203.length : Int) - (1 : Int)) ∧ ((l30203.length : Int) - (1 : Int)) ≤ (l30203.length : Int)) ∧ True ∧ True)) (st' := (⟨76, [(2, [], .v (.c (.ad (.sl (.pr (.int .i64) .bool)) ops))), (7, [], .v (.c (.ptr 30200 0))), (8, [], .v (.c (.ptr 30201 0))), (9, [], .v (.c (.cl 59 [.pt 30201 0, .pt 30200 0]))), (10, [], .v (.c (.p .bool operand))), (20, [], .v (.c (.p (.sl (.int .i64)) l))), (21, [], .v (.c (.p (.int .i64) (l.length : Int)))), (22, [], .v (.c (.p (.int .i64) v22)))], [(30200, [], .box [.own 30202]), (30201, [], .box [.vw 30203 0 ((((l30203.length : Int) - (1 : Int))).toNat) 1]), (30202, [], .arr 3 (.int .i64) l30202), (30203, [], .arr 3 (.int .i64) l30203)]⟩ : St)) (by kernel_rfl) ⟨trivial, trivial, trivial, o1, o2, trivial, trivial⟩ ?_
                          refine awl_conv [.cutB 30201 0, .prune [2, 7, 8, 9, 10, 20, 21, 22] [30200, 30201, 30202, 30203], .ren 30200 50200, .ren 30202 50202, .ren 30201 50201, .ren 30203 50203, .ren 50200 7, .ren 50202 6140, .ren 50201 8, .ren 50203 54, .prune [2, 7, 8, 9, 10, 20, 21, 22] [7, 8, 54, 6140], .ren 6140 26140, .ren 54 20054, .ren 26140 47, .ren 20054 6160, .prune [2, 7, 8, 9, 10, 20, 21, 22] [7, 8, 47, 6160]] (st' := (⟨76, [(2, [], .v (.c (.ad (.sl (.pr (.int .i64) .bool)) ops))), (7, [], .v (.c (.ptr 7 0))), (8, [], .v (.c (.ptr 8 0))), (9, [], .v (.c (.cl 59 [.pt 8 0, .pt 7 0]))), (10, [], .v (.c (.p .bool operand))), (20, [], .v (.c (.p (.sl (.int .i64)) l))), (21, [], .v (.c (.p (.int .i64) (l.length : Int)))), (22, [], .v (.c (.p (.int .i64) v22)))], [(7, [], .box [.own 47]), (8, [], .box [.own 6160]), (47, [], .arr 3 (.int .i64) l30202), (6160, [], .arr 3 (.int .i64) (l30203.take ((((l30203.length : Int) - (1 : Int))).toNat)))]⟩ : St)) (by kernel_rfl) ?_
                          refine awl_nil ?_
                          exact rest5 (operand, l30202, (l30203.take ((((l30203.length : Int) - (1 : Int))).toNat))) h
                      · refine aw_block ?_
                        refine aw_conv [.prune [0, 1, 2, 34, 39, 40, 41, 42, 52, 53, 54] [30200, 30201, 30202, 30203]] (st' := (⟨32, [(0, [], .v (.c (.fn 60 []))), (1, [], .v (.c (.ptr 30201 0))), (2, [], .v (.c (.ptr 30200 0))), (34, [], .v (.c (.ad (.sl (.pr (.int .i64) .bool)) ops))), (39, [], .v (.c (.ptr 30200 0))), (40, [], .v (.c (.ptr 30201 0))), (41, [], .v (.c (.cl 59 [.pt 30201 0, .pt 30200 0]))), (42, [], .v (.c (.p .bool operand))), (52, [], .v (.c (.p (.sl (.int .i64)) l))), (53, [], .v (.c (.p (.int .i64) (l.length : Int)))), (54, [], .v (.c (.p (.int .i64) v22)))], [(30200, [], .box [.own 30202]), (30201, [], .box [.own 30203]), (30202, [], .arr 3 (.int .i64) l6140), (30203, [], .arr 3 (.int .i64) l6160)]⟩ : St)) (by kernel_rfl) ?_
                        refine aw_loop (σ := (List Int) × (List Int)) (fun s => (⟨32, [(0, [], .v (.c (.fn 60 []))), (1, [], .v (.c (.ptr 30201 0))), (2, [], .v (.c (.ptr 30200 0))), (34, [], .v (.c (.ad (.sl (.pr (.int .i64) .bool)) ops))), (39, [], .v (.c (.ptr 30200 0))), (40, [], .v (.c (.ptr 30201 0))), (41, [], .v (.c (.cl 59 [.pt 30201 0, .pt 30200 0]))), (42, [], .v (.c (.p .bool operand))), (52, [], .v (.c (.p (.sl (.int .i64)) l))), (53, [], .v (.c (.p (.int .i64) (l.length : Int)))), (54, [], .v (.c (.p (.int .i64) v22)))], [(30200, [], .box [.own 30202]), (30201, [], .box [.own 30203]), (30202, [], .arr 3 (.int .i64) s.1), (30203, [], .arr 3 (.int .i64) s.2)]⟩ : St)) (fun s X => VC32_l3 K operand v22 X2 s.1 s.2 X) (s0 := (l6140, l6160)) (fun s X3 h => ?_) h
                        obtain ⟨l30202, l30203⟩ := s
                        have h : VC32_l3 K operand v22 X2 l30202 l30203 X3 := h
                        unfold VC32_l3 at h
                        refine aw_seq ?_
                        refine aw_seq ?_
                        refine aw_region ?_
                        obtain ⟨o1, o2, h⟩ := h
                        refine awl_runp 11 [0, 1, 2, 7, 8, 14, 34, 39, 40, 41, 42, 52, 53, 54] [30200, 30201, 30202, 30203] (ob := (True ∧ True ∧ True ∧ True ∧ ((decide ((0 : Int) < (l30203.length : Int))) = true → True) ∧ ((decide ((0 : Int) < (l30203.length : Int))) = true → True) ∧ ((decide ((0 : Int) < (l30203.length : Int))) = true → True) ∧ ((decide ((0 : Int) < (l30203.length : Int))) = true → True) ∧ ((decide ((0 : Int) < (l30203.length : Int))) = true → InR ((l30203.length : Int) - (1 : Int))) ∧ ((decide ((0 : Int) < (l30203.length : Int))) = true → inIdx ((l30203.length : Int) - (1 : Int)) l30203.length) ∧ ((decide ((0 : Int) < (l30203.length : Int))) = true → True) ∧ True)) (st' := (⟨32, [(0, [], .v (.c (.fn 60 []))), (1, [], .v (.c (.ptr 30201 0))), (2, [], .v (.c (.ptr 30200 0))), (7, [], .v (.c (.p .bool (decide ((0 : Int) < (l30203.length : Int)))))), (8, [(7, true)], .v (.c (.fn 60 []))), (14, [(7, true)], .v (.c (.p (.int .i64) (l30203.getD ((((l30203.length : Int) - (1 : Int))).toNat) (0 : Int))))), (34, [], .v (.c (.ad (.sl (.pr (.int .i64) .bool)) ops))), (39, [], .v (.c (.ptr 30200 0))), (40, [], .v (.c (.ptr 30201 0))), (41, [], .v (.c (.cl 59 [.pt 30201 0, .pt 30200 0]))), (42, [], .v (.c (.p .bool operand))), (52, [], .v (.c (.p (.sl (.int .i64)) l))), (53, [], .v (.c (.p (.int .i64) (l.length : Int)))), (54, [], .v (.c (.p (.int .i64) v22)))], [(30200, [], .box [.own 30202]), (30201, [], .box [.own 30203]), (30202, [], .arr 3 (.int .i64) l30202), (30203, [], .arr 3 (.int .i64) l30203)]⟩ : St)) (by kernel_rfl) ⟨trivial, trivial, trivial, trivial, (fun _ => trivial), (fun _ => trivial), (fun _ => trivial), (fun _ => trivial), o1, o2, (fun _ => trivial), trivial⟩ ?_
                        refine awl_callk (p := [(7, true)]) (l := [toV1 (.int .i64) (l30203.getD ((((l30203.length : Int) - (1 : Int))).toNat) (0 : Int))]) (cl := []) false [.d (.int .i64)] [0, 1, 2, 7, 15, 34, 39, 40, 41, 42, 52, 53, 54] [30200, 30201, 30202, 30203] (fun (ret15v2 : Bool) => ((((decide ((0 : Int) < (l30203.length : Int))) && (!ret15v2)) = true → (InR ((l30203.length : Int) - (1 : Int)) ∧ inIdx ((l30203.length : Int) - (1 : Int)) l30203.length ∧ (roomN (l30202.length + [(l30203.getD ((((l30203.length : Int) - (1 : Int))).toNat) (0 : Int))].length) ∧ (InR ((l30203.length : Int) - (1 : Int)) ∧ (0 ≤ ((l30203.length : Int) - (1 : Int)) ∧ ((l30203.length : Int) - (1 : Int)) ≤ (l30203.length : Int)) ∧ X3 ((l30202 ++ [(l30203.getD ((((l30203.length : Int) - (1 : Int))).toNat) (0 : Int))]), (l30203.take ((((l30203.length : Int) - (1 : Int))).toNat))))))) ∧ (((decide ((0 : Int) < (l30203.length : Int))) && (!ret15v2)) = false → VC32_k6 K operand v22 X2 l30202 l30203))) (fun ret15v2 => [toV1 .bool ret15v2]) (fun ret15v2 => (⟨32, [(0, [], .v (.c (.fn 60 []))), (1, [], .v (.c (.ptr 30201 0))), (2, [], .v (.c (.ptr 30200 0))), (7, [], .v (.c (.p .bool (decide ((0 : Int) < (l30203.length : Int)))))), (15, [(7, true)], .v (.c (.p .bool ret15v2))), (34, [], .v (.c (.ad (.sl (.pr (.int .i64) .bool)) ops))), (39, [], .v (.c (.ptr 30200 0))), (40, [], .v (.c (.ptr 30201 0))), (41, [], .v (.c (.cl 59 [.pt 30201 0, .pt 30200 0]))), (42, [], .v (.c (.p .bool operand))), (52, [], .v (.c (.p (.sl (.int .i64)) l))), (53, [], .v (.c (.p (.int .i64) (l.length : Int)))), (54, [], .v (.c (.p (.int .i64) v22)))], [(30200, [], .box [.own 30202]), (30201, [], .box [.own 30203]), (30202, [], .arr 3 (.int .i64) l30202), (30203, [], .arr 3 (.int .i64) l30203)]⟩ : St)) (by kernel_rfl) rfl (by kernel_rfl) rfl (by kernel_rfl) Try.call60 (by kernel_rfl) (fun ret15v2 => by kernel_rfl) (fun e => by cases e) (fun hg => link60 (l30203.getD ((((l30203.length : Int) - (1 : Int))).toNat) (0 : Int)) _ (by have := gcall_T h (show (decide ((0 : Int) < (l30203.length : Int))) = true from hg); exact this)) (fun hg => ⟨false, by have := gcall_F h (show (decide ((0 : Int) < (l30203.length : Int))) = false from hg); exact this⟩) (fun ret15v2 h => ?_)
                        have h : ((((decide ((0 : Int) < (l30203.length : Int))) && (!ret15v2)) = true → (InR ((l30203.length : Int) - (1 : Int)) ∧ inIdx ((l30203.length : Int) - (1 : Int)) l30203.length ∧ (roomN (l30202.length + [(l30203.getD ((((l30203.length : Int) - (1 : Int))).toNat) (0 : Int))].length) ∧ (InR ((l30203.length : Int) - (1 : Int)) ∧ (0 ≤ ((l30203.length : Int) - (1 : Int)) ∧ ((l30203.length : Int) - (1 : Int)) ≤ (l30203.length : Int)) ∧ X3 ((l30202 ++ [(l30203.getD ((((l30203.length : Int) - (1 : Int))).toNat) (0 : Int))]), (l30203.take ((((l30203.length : Int) - (1 : Int))).toNat))))))) ∧ (((decide ((0 : Int) < (l30203.length : Int))) && (!ret15v2)) = false → VC32_k6 K operand v22 X2 l30202 l30203)) := h
                        refine awl_runp 2 [0, 1, 2, 17, 34, 39, 40, 41, 42, 52, 53, 54] [30200, 30201, 30202, 30203] (ob := (((decide ((0 : Int) < (l30203.length : Int))) = true → True) ∧ True ∧ True)) (st' := (⟨32, [(0, [], .v (.c (.fn 60 []))), (1, [], .v (.c (.ptr 30201 0))), (2, [], .v (.c (.ptr 30200 0))), (17, [], .v (.c (.p .bool ((decide ((0 : Int) < (l30203.length : Int))) && (!ret15v2))))), (34, [], .v (.c (.ad (.sl (.pr (.int .i64) .bool)) ops))), (39, [], .v (.c (.ptr 30200 0))), (40, [], .v (.c (.ptr 30201 0))), (41, [], .v (.c (.cl 59 [.pt 30201 0, .pt 30200 0]))), (42, [], .v (.c (.p .bool operand))), (52, [], .v (.c (.p (.sl (.int .i64)) l))), (53, [], .v (.c (.p (.int .i64) (l.length : Int)))), (54, [], .v (.c (.p (.int .i64) v22)))], [(30200, [], .box [.own 30202]), (30201, [], .box [.own 30203]), (30202, [], .arr 3 (.int .i64) l30202), (30203, [], .arr 3 (.int .i64) l30203)]⟩ : St)) (by kernel_rfl) ⟨(fun _ => trivial), trivial, trivial⟩ ?_
                        refine awl_nil ?_
                        refine thenQ_n ?_
                        refine aw_cond (b := ((decide ((0 : Int) < (l30203.length : Int))) && (!ret15v2))) (by kernel_rfl) (fun hb => ?_) (fun hb => ?_)
                        · have h := h.1 hb
                          refine aw_skip ?_
                          refine thenQ_n ?_
                          refine aw_block ?_
                          refine aw_seq ?_
                          refine awd_begin [30200, 30202] (by kernel_rfl) ?_
                          refine awd_memo ((roomN (l30202.length + [(l30203.getD ((((l30203.length : Int) - (1 : Int))).toNat) (0 : Int))].length) ∧ (InR ((l30203.length : Int) - (1 : Int)) ∧ (0 ≤ ((l30203.length : Int) - (1 : Int)) ∧ ((l30203.length : Int) - (1 : Int)) ≤ (l30203.length : Int)) ∧ X3 ((l30202 ++ [(l30203.getD ((((l30203.length : Int) - (1 : Int))).toNat) (0 : Int))]), (l30203.take ((((l30203.length : Int) - (1 : Int))).toNat)))))) [7, 0, 6, 5, 4, 3, 2, 1] (⟨32, [(0, [], .v (.c (.fn 60 []))), (1, [], .v (.c (.ptr 30201 0))), (2, [], .v (.c (.ptr 30200 0))), (18, [], .v (.c (.own 30202))), (25, [], .v (.c (.own 25))), (34, [], .v (.c (.ad (.sl (.pr (.int .i64) .bool)) ops))), (39, [], .v (.c (.ptr 30200 0))), (40, [], .v (.c (.ptr 30201 0))), (41, [], .v (.c (.cl 59 [.pt 30201 0, .pt 30200 0]))), (42, [], .v (.c (.p .bool operand))), (52, [], .v (.c (.p (.sl (.int .i64)) l))), (53, [], .v (.c (.p (.int .i64) (l.length : Int)))), (54, [], .v (.c (.p (.int .i64) v22)))], [(25, [], .arr 3 (.int .i64) [(l30203.getD ((((l30203.length : Int) - (1 : Int))).toNat) (0 : Int))]), (30200, [], .box [.own 30202]), (30201, [], .box [.own 30203]), (30202, [], .arr 3 (.int .i64) l30202), (30203, [], .arr 3 (.int .i64) l30203)]⟩ : St) (fun h => ?_) (fun m2 => ?_)
                          · refine awd_one (i := 8) (by kernel_rfl) ?_
                            obtain ⟨o1, h⟩ := h
                            refine adop_stepp [0, 1, 2, 26, 34, 39, 40, 41, 42, 52, 53, 54] [26, 30200, 30201, 30203] (ob := roomN (l30202.length + [(l30203.getD ((((l30203.length : Int) - (1 : Int))).toNat) (0 : Int))].length)) (st' := (⟨32, [(0, [], .v (.c (.fn 60 []))), (1, [], .v (.c (.ptr 30201 0))), (2, [], .v (.c (.ptr 30200 0))), (26, [], .v (.c (.own 26))), (34, [], .v (.c (.ad (.sl (.pr (.int .i64) .bool)) ops))), (39, [], .v (.c (.ptr 30200 0))), (40, [], .v (.c (.ptr 30201 0))), (41, [], .v (.c (.cl 59 [.pt 30201 0, .pt 30200 0]))), (42, [], .v (.c (.p .bool operand))), (52, [], .v (.c (.p (.sl (.int .i64)) l))), (53, [], .v (.c (.p (.int .i64) (l.length : Int)))), (54, [], .v (.c (.p (.int .i64) v22)))], [(26, [], .arr 3 (.int .i64) (l30202 ++ [(l30203.getD ((((l30203.length : Int) - (1 : Int))).toNat) (0 : Int))])), (30200, [], .box [.any]), (30201, [], .box [.own 30203]), (30203, [], .arr 3 (.int .i64) l30203)]⟩ : St)) rfl (by kernel_rfl) o1 ?_
                            refine awd_one (i := 9) (by kernel_rfl) ?_
                            refine adop_stepp [0, 1, 2, 34, 39, 40, 41, 42, 52, 53, 54] [26, 30200, 30201, 30203] (ob := True) (st' := (⟨32, [(0, [], .v (.c (.fn 60 []))), (1, [], .v (.c (.ptr 30201 0))), (2, [], .v (.c (.ptr 30200 0))), (34, [], .v (.c (.ad (.sl (.pr (.int .i64) .bool)) ops))), (39, [], .v (.c (.ptr 30200 0))), (40, [], .v (.c (.ptr 30201 0))), (41, [], .v (.c (.cl 59 [.pt 30201 0, .pt 30200 0]))), (42, [], .v (.c (.p .bool operand))), (52, [], .v (.c (.p (.sl (.int .i64)) l))), (53, [], .v (.c (.p (.int .i64) (l.length : Int)))), (54, [], .v (.c (.p (.int .i64) v22)))], [(26, [], .arr 3 (.int .i64) (l30202 ++ [(l30203.getD ((((l30203.length : Int) - (1 : Int))).toNat) (0 : Int))])), (30200, [], .box [.own 26]), (30201, [], .box [.own 30203]), (30203, [], .arr 3 (.int .i64) l30203)]⟩ : St)) rfl (by kernel_rfl) trivial ?_
                            refine awd_done (by kernel_rfl) ?_
                            refine thenQ_n ?_
                            refine aw_region ?_
                            obtain ⟨o1, o2, h⟩ := h
                            refine awl_runp 6 [0, 1, 2, 34, 39, 40, 41, 42, 52, 53, 54] [26, 30200, 30201, 30203] (ob := (True ∧ True ∧ True ∧ InR ((l30203.length : Int) - (1 : Int)) ∧ (0 ≤ ((l30203.length : Int) - (1 : Int)) ∧ ((l30203.length : Int) - (1 : Int)) ≤ (l30203.length : Int)) ∧ True ∧ True)) (st' := (⟨32, [(0, [], .v (.c (.fn 60 []))), (1, [], .v (.c (.ptr 30201 0))), (2, [], .v (.c (.ptr 30200 0))), (34, [], .v (.c (.ad (.sl (.pr (.int .i64) .bool)) ops))), (39, [], .v (.c (.ptr 30200 0))), (40, [], .v (.c (.ptr 30201 0))), (41, [], .v (.c (.cl 59 [.pt 30201 0, .pt 30200 0]))), (42, [], .v (.c (.p .bool operand))), (52, [], .v (.c (.p (.sl (.int .i64)) l))), (53, [], .v (.c (.p (.int .i64) (l.length : Int)))), (54, [], .v (.c (.p (.int .i64) v22)))], [(26, [], .arr 3 (.int .i64) (l30202 ++ [(l30203.getD ((((l30203.length : Int) - (1 : Int))).toNat) (0 : Int))])), (30200, [], .box [.own 26]), (30201, [], .box [.vw 30203 0 ((((l30203.length : Int) - (1 : Int))).toNat) 1]), (30203, [], .arr 3 (.int .i64) l30203)]⟩ : St)) (by kernel_rfl) ⟨trivial, trivial, trivial, o1, o2, trivial, trivial⟩ ?_
                            refine awl_conv [.cutB 30201 0, .ren 26 20026, .ren 20026 30202, .prune [0, 1, 2, 34, 39, 40, 41, 42, 52, 53, 54] [30200, 30201, 30202, 30203]] (st' := (⟨32, [(0, [], .v (.c (.fn 60 []))), (1, [], .v (.c (.ptr 30201 0))), (2, [], .v (.c (.ptr 30200 0))), (34, [], .v (.c (.ad (.sl (.pr (.int .i64) .bool)) ops))), (39, [], .v (.c (.ptr 30200 0))), (40, [], .v (.c (.ptr 30201 0))), (41, [], .v (.c (.cl 59 [.pt 30201 0, .pt 30200 0]))), (42, [], .v (.c (.p .bool operand))), (52, [], .v (.c (.p (.sl (.int .i64)) l))), (53, [], .v (.c (.p (.int .i64) (l.length : Int)))), (54, [], .v (.c (.p (.int .i64) v22)))], [(30200, [], .box [.own 30202]), (30201, [], .box [.own 30203]), (30202, [], .arr 3 (.int .i64) (l30202 ++ [(l30203.getD ((((l30203.length : Int) - (1 : Int))).toNat) (0 : Int))])), (30203, [], .arr 3 (.int .i64) (l30203.take ((((l30203.length : Int) - (1 : Int))).toNat)))]⟩ : St)) (by kernel_rfl) ?_
                            refine awl_nil ?_
                            refine blockQ_n ?_
                            exact thenQ_n ⟨((l30202 ++ [(l30203.getD ((((l30203.length : Int) - (1 : Int))).toNat) (0 : Int))]), (l30203.take ((((l30203.length : Int) - (1 : Int))).toNat))), rfl, h⟩
                          · obtain ⟨o1, o2, h⟩ := h
                            refine awd_runp (by kernel_rfl) [1, 2, 3, 4, 5, 6] [0, 1, 2, 24, 34, 39, 40, 41, 42, 52, 53, 54] [30200, 30201, 30202, 30203] (ob := (True ∧ True ∧ True ∧ InR ((l30203.length : Int) - (1 : Int)) ∧ inIdx ((l30203.length : Int) - (1 : Int)) l30203.length ∧ True ∧ True)) (done' := [6, 5, 4, 3, 2, 1]) (st' := (⟨32, [(0, [], .v (.c (.fn 60 []))), (1, [], .v (.c (.ptr 30201 0))), (2, [], .v (.c (.ptr 30200 0))), (24, [], .v (.c (.p (.int .i64) (l30203.getD ((((l30203.length : Int) - (1 : Int))).toNat) (0 : Int))))), (34, [], .v (.c (.ad (.sl (.pr (.int .i64) .bool)) ops))), (39, [], .v (.c (.ptr 30200 0))), (40, [], .v (.c (.ptr 30201 0))), (41, [], .v (.c (.cl 59 [.pt 30201 0, .pt 30200 0]))), (42, [], .v (.c (.p .bool operand))), (52, [], .v (.c (.p (.sl (.int .i64)) l))), (53, [], .v (.c (.p (.int .i64) (l.length : Int)))), (54, [], .v (.c (.p (.int .i64) v22)))], [(30200, [], .box [.own 30202]), (30201, [], .box [.own 30203]), (30202, [], .arr 3 (.int .i64) l30202), (30203, [], .arr 3 (.int .i64) l30203)]⟩ : St)) (by kernel_rfl) ⟨trivial, trivial, trivial, o1, o2, trivial, trivial⟩ ?_
                            refine awd_two (i := 0) (j := 7) (by kernel_rfl) ?_ ?_
                            · have h := h
                              refine adop_stepp [0, 1, 2, 18, 24, 34, 39, 40, 41, 42, 52, 53, 54] [30200, 30201, 30202, 30203] (ob := True) (st' := (⟨32, [(0, [], .v (.c (.fn 60 []))), (1, [], .v (.c (.ptr 30201 0))), (2, [], .v (.c (.ptr 30200 0))), (18, [], .v (.c (.own 30202))), (24, [], .v (.c (.p (.int .i64) (l30203.getD ((((l30203.length : Int) - (1 : Int))).toNat) (0 : Int))))), (34, [], .v (.c (.ad (.sl (.pr (.int .i64) .bool)) ops))), (39, [], .v (.c (.ptr 30200 0))), (40, [], .v (.c (.ptr 30201 0))), (41, [], .v (.c (.cl 59 [.pt 30201 0, .pt 30200 0]))), (42, [], .v (.c (.p .bool operand))), (52, [], .v (.c (.p (.sl (.int .i64)) l))), (53, [], .v (.c (.p (.int .i64) (l.length : Int)))), (54, [], .v (.c (.p (.int .i64) v22)))], [(30200, [], .box [.own 30202]), (30201, [], .box [.own 30203]), (30202, [], .arr 3 (.int .i64) l30202), (30203, [], .arr 3 (.int .i64) l30203)]⟩ : St)) rfl (by kernel_rfl) trivial ?_
                              refine awd_one (i := 7) (by kernel_rfl) ?_
                              refine adop_stepp [0, 1, 2, 18, 25, 34, 39, 40, 41, 42, 52, 53, 54] [25, 30200, 30201, 30202, 30203] (ob := True) (st' := (⟨32, [(0, [], .v (.c (.fn 60 []))), (1, [], .v (.c (.ptr 30201 0))), (2, [], .v (.c (.ptr 30200 0))), (18, [], .v (.c (.own 30202))), (25, [], .v (.c (.own 25))), (34, [], .v (.c (.ad (.sl (.pr (.int .i64) .bool)) ops))), (39, [], .v (.c (.ptr 30200 0))), (40, [], .v (.c (.ptr 30201 0))), (41, [], .v (.c (.cl 59 [.pt 30201 0, .pt 30200 0]))), (42, [], .v (.c (.p .bool operand))), (52, [], .v (.c (.p (.sl (.int .i64)) l))), (53, [], .v (.c (.p (.int .i64) (l.length : Int)))), (54, [], .v (.c (.p (.int .i64) v22)))], [(25, [], .arr 3 (.int .i64) [(l30203.getD ((((l30203.length : Int) - (1 : Int))).toNat) (0 : Int))]), (30200, [], .box [.own 30202]), (30201, [], .box [.own 30203]), (30202, [], .arr 3 (.int .i64) l30202), (30203, [], .arr 3 (.int .i64) l30203)]⟩ : St)) rfl (by kernel_rfl) trivial ?_
                              exact m2 h
                            · have h := h
                              refine adop_stepp [0, 1, 2, 25, 34, 39, 40, 41, 42, 52, 53, 54] [25, 30200, 30201, 30202, 30203] (ob := True) (st' := (⟨32, [(0, [], .v (.c (.fn 60 []))), (1, [], .v (.c (.ptr 30201 0))), (2, [], .v (.c (.ptr 30200 0))), (25, [], .v (.c (.own 25))), (34, [], .v (.c (.ad (.sl (.pr (.int .i64) .bool)) ops))), (39, [], .v (.c (.ptr 30200 0))), (40, [], .v (.c (.ptr 30201 0))), (41, [], .v (.c (.cl 59 [.pt 30201 0, .pt 30200 0]))), (42, [], .v (.c (.p .bool operand))), (52, [], .v (.c (.p (.sl (.int .i64)) l))), (53, [], .v (.c (.p (.int .i64) (l.length : Int)))), (54, [], .v (.c (.p (.int .i64) v22)))], [(25, [], .arr 3 (.int .i64) [(l30203.getD ((((l30203.length : Int) - (1 : Int))).toNat) (0 : Int))]), (30200, [], .box [.own 30202]), (30201, [], .box [.own 30203]), (30202, [], .arr 3 (.int .i64) l30202), (30203, [], .arr 3 (.int .i64) l30203)]⟩ : St)) rfl (by kernel_rfl) trivial ?_
                              refine awd_one (i := 0) (by kernel_rfl) ?_
                              refine adop_stepp [0, 1, 2, 18, 25, 34, 39, 40, 41, 42, 52, 53, 54] [25, 30200, 30201, 30202, 30203] (ob := True) (st' := (⟨32, [(0, [], .v (.c (.fn 60 []))), (1, [], .v (.c (.ptr 30201 0))), (2, [], .v (.c (.ptr 30200 0))), (18, [], .v (.c (.own 30202))), (25, [], .v (.c (.own 25))), (34, [], .v (.c (.ad (.sl (.pr (.int .i64) .bool)) ops))), (39, [], .v (.c (.ptr 30200 0))), (40, [], .v (.c (.ptr 30201 0))), (41, [], .v (.c (.cl 59 [.pt 30201 0, .pt 30200 0]))), (42, [], .v (.c (.p .bool operand))), (52, [], .v (.c (.p (.sl (.int .i64)) l))), (53, [], .v (.c (.p (.int .i64) (l.length : Int)))), (54, [], .v (.c (.p (.int .i64) v22)))], [(25, [], .arr 3 (.int .i64) [(l30203.getD ((((l30203.length : Int) - (1 : Int))).toNat) (0 : Int))]), (30200, [], .box [.own 30202]), (30201, [], .box [.own 30203]), (30202, [], .arr 3 (.int .i64) l30202), (30203, [], .arr 3 (.int .i64) l30203)]⟩ : St)) rfl (by kernel_rfl) trivial ?_
                              refine awd_perm [7, 0, 6, 5, 4, 3, 2, 1] (by kernel_rfl) (by kernel_rfl) ?_
                              exact m2 h
                        · have h := h.2 hb
                          refine aw_conv [.prune [34, 39, 40, 41, 42, 52, 53, 54] [30200, 30201, 30202, 30203]] (st' := (⟨32, [(34, [], .v (.c (.ad (.sl (.pr (.int .i64) .bool)) ops))), (39, [], .v (.c (.ptr 30200 0))), (40, [], .v (.c (.ptr 30201 0))), (41, [], .v (.c (.cl 59 [.pt 30201 0, .pt 30200 0]))), (42, [], .v (.c (.p .bool operand))), (52, [], .v (.c (.p (.sl (.int .i64)) l))), (53, [], .v (.c (.p (.int .i64) (l.length : Int)))), (54, [], .v (.c (.p (.int .i64) v22)))], [(30200, [], .box [.own 30202]), (30201, [], .box [.own 30203]), (30202, [], .arr 3 (.int .i64) l30202), (30203, [], .arr 3 (.int .i64) l30203)]⟩ : St)) (by kernel_rfl) ?_
                          refine aw_exit ?_
                          refine thenQ_x ?_
                          refine thenQ_x ?_
                          refine blockQ_hit ?_
                          exact rest6 (l30202, l30203) h
                    · have h := h.2 hb
                      refine aw_seq ?_
                      refine aw_region ?_
                      refine awl_runp 1 [2, 7, 8, 9, 12, 20, 21, 22, 34] [7, 8, 12, 6140, 6160] (ob := (True ∧ True)) (st' := (⟨76, [(2, [], .v (.c (.ad (.sl (.pr (.int .i64) .bool)) ops))), (7, [], .v (.c (.ptr 7 0))), (8, [], .v (.c (.ptr 8 0))), (9, [], .v (.c (.cl 59 [.pt 8 0, .pt 7 0]))), (12, [], .v (.c (.ptr 12 0))), (20, [], .v (.c (.p (.sl (.int .i64)) l))), (21, [], .v (.c (.p (.int .i64) (l.length : Int)))), (22, [], .v (.c (.p (.int .i64) v22))), (34, [], .v (.c (.cl 59 [.pt 8 0, .pt 7 0])))], [(7, [], .box [.own 6140]), (8, [], .box [.own 6160]), (12, [], .box [.p (.int .i64) (l.getD (v22).toNat (0 : Int))]), (6140, [], .arr 3 (.int .i64) l6140), (6160, [], .arr 3 (.int .i64) l6160)]⟩ : St)) (by kernel_rfl) ⟨trivial, trivial⟩ ?_
                      refine awl_conv [.freezeB 12 (.int .i64)] (st' := (⟨76, [(2, [], .v (.c (.ad (.sl (.pr (.int .i64) .bool)) ops))), (7, [], .v (.c (.ptr 7 0))), (8, [], .v (.c (.ptr 8 0))), (9, [], .v (.c (.cl 59 [.pt 8 0, .pt 7 0]))), (12, [], .v (.c (.ad (.int .i64) (l.getD (v22).toNat (0 : Int))))), (20, [], .v (.c (.p (.sl (.int .i64)) l))), (21, [], .v (.c (.p (.int .i64) (l.length : Int)))), (22, [], .v (.c (.p (.int .i64) v22))), (34, [], .v (.c (.cl 59 [.pt 8 0, .pt 7 0])))], [(7, [], .box [.own 6140]), (8, [], .box [.own 6160]), (6140, [], .arr 3 (.int .i64) l6140), (6160, [], .arr 3 (.int .i64) l6160)]⟩ : St)) (by kernel_rfl) ?_
                      refine awl_runp 1 [2, 7, 8, 9, 12, 20, 21, 22, 34, 35] [7, 8, 6140, 6160] (ob := (True ∧ True)) (st' := (⟨76, [(2, [], .v (.c (.ad (.sl (.pr (.int .i64) .bool)) ops))), (7, [], .v (.c (.ptr 7 0))), (8, [], .v (.c (.ptr 8 0))), (9, [], .v (.c (.cl 59 [.pt 8 0, .pt 7 0]))), (12, [], .v (.c (.ad (.int .i64) (l.getD (v22).toNat (0 : Int))))), (20, [], .v (.c (.p (.sl (.int .i64)) l))), (21, [], .v (.c (.p (.int .i64) (l.length : Int)))), (22, [], .v (.c (.p (.int .i64) v22))), (34, [], .v (.c (.cl 59 [.pt 8 0, .pt 7 0]))), (35, [], .v (.c (.fn 61 [(⟨(.sl (.pr (.int .i64) .bool)), ops⟩ : Dat), (⟨(.int .i64), (l.getD (v22).toNat (0 : Int))⟩ : Dat)])))], [(7, [], .box [.own 6140]), (8, [], .box [.own 6160]), (6140, [], .arr 3 (.int .i64) l6140), (6160, [], .arr 3 (.int .i64) l6160)]⟩ : St)) (by kernel_rfl) ⟨trivial, trivial⟩ ?_
                      refine awl_conv [.ren 7 30400, .ren 8 30401, .ren 6140 30402, .ren 6160 30403] (st' := (⟨76, [(2, [], .v (.c (.ad (.sl (.pr (.int .i64) .bool)) ops))), (7, [], .v (.c (.ptr 30400 0))), (8, [], .v (.c (.ptr 30401 0))), (9, [], .v (.c (.cl 59 [.pt 30401 0, .pt 30400 0]))), (12, [], .v (.c (.ad (.int .i64) (l.getD (v22).toNat (0 : Int))))), (20, [], .v (.c (.p (.sl (.int .i64)) l))), (21, [], .v (.c (.p (.int .i64) (l.length : Int)))), (22, [], .v (.c (.p (.int .i64) v22))), (34, [], .v (.c (.cl 59 [.pt 30401 0, .pt 30400 0]))), (35, [], .v (.c (.fn 61 [(⟨(.sl (.pr (.int .i64) .bool)), ops⟩ : Dat), (⟨(.int .i64), (l.getD (v22).toNat (0 : Int))⟩ : Dat)])))], [(30400, [], .box [.own 30402]), (30401, [], .box [.own 30403]), (30402, [], .arr 3 (.int .i64) l6140), (30403, [], .arr 3 (.int .i64) l6160)]⟩ : St)) (by kernel_rfl) ?_
                      refine awl_inlr [] [30400, 30401, 30402, 30403] [.c (.fn 61 [(⟨(.sl (.pr (.int .i64) .bool)), ops⟩ : Dat), (⟨(.int .i64), (l.getD (v22).toNat (0 : Int))⟩ : Dat)])] [.c (.ptr 30401 0), .c (.ptr 30400 0)] rfl rfl (by kernel_rfl) rfl (by kernel_rfl) Try.call59 (by kernel_rfl) (by kernel_rfl) Try.func59 rfl rfl (by kernel_rfl) ?_
                      refine aw_conv [] (st' := (⟨32, [(0, [], .v (.c (.fn 61 [(⟨(.sl (.pr (.int .i64) .bool)), ops⟩ : Dat), (⟨(.int .i64), (l.getD (v22).toNat (0 : Int))⟩ : Dat)]))), (1, [], .v (.c (.ptr 30401 0))), (2, [], .v (.c (.ptr 30400 0))), (34, [], .v (.c (.ad (.sl (.pr (.int .i64) .bool)) ops))), (39, [], .v (.c (.ptr 30400 0))), (40, [], .v (.c (.ptr 30401 0))), (41, [], .v (.c (.cl 59 [.pt 30401 0, .pt 30400 0]))), (44, [], .v (.c (.ad (.int .i64) (l.getD (v22).toNat (0 : Int))))), (52, [], .v (.c (.p (.sl (.int .i64)) l))), (53, [], .v (.c (.p (.int .i64) (l.length : Int)))), (54, [], .v (.c (.p (.int .i64) v22))), (66, [], .v (.c (.cl 59 [.pt 30401 0, .pt 30400 0]))), (67, [], .v (.c (.fn 61 [(⟨(.sl (.pr (.int .i64) .bool)), ops⟩ : Dat), (⟨(.int .i64), (l.getD (v22).toNat (0 : Int))⟩ : Dat)])))], [(30400, [], .box [.own 30402]), (30401, [], .box [.own 30403]), (30402, [], .arr 3 (.int .i64) l6140), (30403, [], .arr 3 (.int .i64) l6160)]⟩ : St)) (by kernel_rfl) ?_
                      refine withJoin (σ := (List Int) × (List Int)) (fun s => (⟨32, [(34, [], .v (.c (.ad (.sl (.pr (.int .i64) .bool)) ops))), (39, [], .v (.c (.ptr 30400 0))), (40, [], .v (.c (.ptr 30401 0))), (41, [], .v (.c (.cl 59 [.pt 30401 0, .pt 30400 0]))), (44, [], .v (.c (.ad (.int .i64) (l.getD (v22).toNat (0 : Int))))), (52, [], .v (.c (.p (.sl (.int .i64)) l))), (53, [], .v (.c (.p (.int .i64) (l.length : Int)))), (54, [], .v (.c (.p (.int .i64) v22)))], [(30400, [], .box [.own 30402]), (30401, [], .box [.own 30403]), (30402, [], .arr 3 (.int .i64) s.1), (30403, [], .arr 3 (.int .i64) s.2)]⟩ : St)) (fun s => VC32_k7 l v22 X2 s.1 s.2) (fun s h => ?_) (fun rest7 => ?_)
                      · obtain ⟨l30402, l30403⟩ := s
                        have h : VC32_k7 l v22 X2 l30402 l30403 := h
                        unfold VC32_k7 at h
                        refine inlR_n (.tup []) (by kernel_rfl) rfl ?_
                        refine awl_conv [.prune [2, 7, 8, 9, 12, 20, 21, 22] [30400, 30401, 30402, 30403]] (st' := (⟨76, [(2, [], .v (.c (.ad (.sl (.pr (.int .i64) .bool)) ops))), (7, [], .v (.c (.ptr 30400 0))), (8, [], .v (.c (.ptr 30401 0))), (9, [], .v (.c (.cl 59 [.pt 30401 0, .pt 30400 0]))), (12, [], .v (.c (.ad (.int .i64) (l.getD (v22).toNat (0 : Int))))), (20, [], .v (.c (.p (.sl (.int .i64)) l))), (21, [], .v (.c (.p (.int .i64) (l.length : Int)))), (22, [], .v (.c (.p (.int .i64) v22)))], [(30400, [], .box [.own 30402]), (30401, [], .box [.own 30403]), (30402, [], .arr 3 (.int .i64) l30402), (30403, [], .arr 3 (.int .i64) l30403)]⟩ : St)) (by kernel_rfl) ?_
                        refine awl_nil ?_
                        refine thenQ_n ?_
                        refine aw_seq ?_
                        refine aw_region ?_
                        obtain ⟨o1, h⟩ := h
                        refine awl_runp 5 [2, 7, 8, 9, 20, 21, 22] [40, 30400, 30401, 30402] (ob := (True ∧ True ∧ True ∧ roomN (l30403.length + [(l.getD (v22).toNat (0 : Int))].length) ∧ True ∧ True)) (st' := (⟨76, [(2, [], .v (.c (.ad (.sl (.pr (.int .i64) .bool)) ops))), (7, [], .v (.c (.ptr 30400 0))), (8, [], .v (.c (.ptr 30401 0))), (9, [], .v (.c (.cl 59 [.pt 30401 0, .pt 30400 0]))), (20, [], .v (.c (.p (.sl (.int .i64)) l))), (21, [], .v (.c (.p (.int .i64) (l.length : Int)))), (22, [], .v (.c (.p (.int .i64) v22)))], [(40, [], .arr 3 (.int .i64) (l30403 ++ [(l.getD (v22).toNat (0 : Int))])), (30400, [], .box [.own 30402]), (30401, [], .box [.own 40]), (30402, [], .arr 3 (.int .i64) l30402)]⟩ : St)) (by kernel_rfl) ⟨trivial, trivial, trivial, o1, trivial, trivial⟩ ?_
                        refine awl_nil ?_
                        refine thenQ_n ?_
                        refine aw_region ?_
                        refine awl_runp 1 [2, 7, 8, 9, 10, 20, 21, 22] [40, 30400, 30401, 30402] (ob := (True ∧ True)) (st' := (⟨76, [(2, [], .v (.c (.ad (.sl (.pr (.int .i64) .bool)) ops))), (7, [], .v (.c (.ptr 30400 0))), (8, [], .v (.c (.ptr 30401 0))), (9, [], .v (.c (.cl 59 [.pt 30401 0, .pt 30400 0]))), (10, [], .v (.c (.p .bool true))), (20, [], .v (.c (.p (.sl (.int .i64)) l))), (21, [], .v (.c (.p (.int .i64) (l.length : Int)))), (22, [], .v (.c (.p (.int .i64) v22)))], [(40, [], .arr 3 (.int .i64) (l30403 ++ [(l.getD (v22).toNat (0 : Int))])), (30400, [], .box [.own 30402]), (30401, [], .box [.own 40]), (30402, [], .arr 3 (.int .i64) l30402)]⟩ : St)) (by kernel_rfl) ⟨trivial, trivial⟩ ?_
                        refine awl_conv [.ren 30400 50400, .ren 30402 50402, .ren 30401 50401, .ren 40 20040, .ren 50400 30200, .ren 50402 30202, .ren 50401 30201, .ren 20040 30203, .prune [2, 7, 8, 9, 10, 20, 21, 22] [30200, 30201, 30202, 30203], .ren 30200 50200, .ren 30202 50202, .ren 30201 50201, .ren 30203 50203, .ren 50200 7, .ren 50202 6140, .ren 50201 8, .ren 50203 54, .prune [2, 7, 8, 9, 10, 20, 21, 22] [7, 8, 54, 6140], .ren 6140 26140, .ren 54 20054, .ren 26140 47, .ren 20054 6160, .prune [2, 7, 8, 9, 10, 20, 21, 22] [7, 8, 47, 6160]] (st' := (⟨76, [(2, [], .v (.c (.ad (.sl (.pr (.int .i64) .bool)) ops))), (7, [], .v (.c (.ptr 7 0))), (8, [], .v (.c (.ptr 8 0))), (9, [], .v (.c (.cl 59 [.pt 8 0, .pt 7 0]))), (10, [], .v (.c (.p .bool true))), (20, [], .v (.c (.p (.sl (.int .i64)) l))), (21, [], .v (.c (.p (.int .i64) (l.length : Int)))), (22, [], .v (.c (.p (.int .i64) v22)))], [(7, [], .box [.own 47]), (8, [], .box [.own 6160]), (47, [], .arr 3 (.int .i64) l30402), (6160, [], .arr 3 (.int .i64) (l30403 ++ [(l.getD (v22).toNat (0 : Int))]))]⟩ : St)) (by kernel_rfl) ?_
                        refine awl_nil ?_
                        exact rest5 (true, l30402, (l30403 ++ [(l.getD (v22).toNat (0 : Int))])) h
                      · refine aw_block ?_
                        refine aw_conv [.prune [0, 1, 2, 34, 39, 40, 41, 44, 52, 53, 54] [30400, 30401, 30402, 30403]] (st' := (⟨32, [(0, [], .v (.c (.fn 61 [(⟨(.sl (.pr (.int .i64) .bool)), ops⟩ : Dat), (⟨(.int .i64), (l.getD (v22).toNat (0 : Int))⟩ : Dat)]))), (1, [], .v (.c (.ptr 30401 0))), (2, [], .v (.c (.ptr 30400 0))), (34, [], .v (.c (.ad (.sl (.pr (.int .i64) .bool)) ops))), (39, [], .v (.c (.ptr 30400 0))), (40, [], .v (.c (.ptr 30401 0))), (41, [], .v (.c (.cl 59 [.pt 30401 0, .pt 30400 0]))), (44, [], .v (.c (.ad (.int .i64) (l.getD (v22).toNat (0 : Int))))), (52, [], .v (.c (.p (.sl (.int .i64)) l))), (53, [], .v (.c (.p (.int .i64) (l.length : Int)))), (54, [], .v (.c (.p (.int .i64) v22)))], [(30400, [], .box [.own 30402]), (30401, [], .box [.own 30403]), (30402, [], .arr 3 (.int .i64) l6140), (30403, [], .arr 3 (.int .i64) l6160)]⟩ : St)) (by kernel_rfl) ?_
                        refine aw_loop (σ := (List Int) × (List Int)) (fun s => (⟨32, [(0, [], .v (.c (.fn 61 [(⟨(.sl (.pr (.int .i64) .bool)), ops⟩ : Dat), (⟨(.int .i64), (l.getD (v22).toNat (0 : Int))⟩ : Dat)]))), (1, [], .v (.c (.ptr 30401 0))), (2, [], .v (.c (.ptr 30400 0))), (34, [], .v (.c (.ad (.sl (.pr (.int .i64) .bool)) ops))), (39, [], .v (.c (.ptr 30400 0))), (40, [], .v (.c (.ptr 30401 0))), (41, [], .v (.c (.cl 59 [.pt 30401 0, .pt 30400 0]))), (44, [], .v (.c (.ad (.int .i64) (l.getD (v22).toNat (0 : Int))))), (52, [], .v (.c (.p (.sl (.int .i64)) l))), (53, [], .v (.c (.p (.int .i64) (l.length : Int)))), (54, [], .v (.c (.p (.int .i64) v22)))], [(30400, [], .box [.own 30402]), (30401, [], .box [.own 30403]), (30402, [], .arr 3 (.int .i64) s.1), (30403, [], .arr 3 (.int .i64) s.2)]⟩ : St)) (fun s X => VC32_l4 ops l v22 X2 s.1 s.2 X) (s0 := (l6140, l6160)) (fun s X4 h => ?_) h
                        obtain ⟨l30402, l30403⟩ := s
                        have h : VC32_l4 ops l v22 X2 l30402 l30403 X4 := h
                        unfold VC32_l4 at h
                        refine aw_seq ?_
                        refine aw_seq ?_
                        refine aw_region ?_
                        obtain ⟨o1, o2, h⟩ := h
                        refine awl_runp 11 [0, 1, 2, 7, 8, 14, 34, 39, 40, 41, 44, 52, 53, 54] [30400, 30401, 30402, 30403] (ob := (True ∧ True ∧ True ∧ True ∧ ((decide ((0 : Int) < (l30403.length : Int))) = true → True) ∧ ((decide ((0 : Int) < (l30403.length : Int))) = true → True) ∧ ((decide ((0 : Int) < (l30403.length : Int))) = true → True) ∧ ((decide ((0 : Int) < (l30403.length : Int))) = true → True) ∧ ((decide ((0 : Int) < (l30403.length : Int))) = true → InR ((l30403.length : Int) - (1 : Int))) ∧ ((decide ((0 : Int) < (l30403.length : Int))) = true → inIdx ((l30403.length : Int) - (1 : Int)) l30403.length) ∧ ((decide ((0 : Int) < (l30403.length : Int))) = true → True) ∧ True)) (st' := (⟨32, [(0, [], .v (.c (.fn 61 [(⟨(.sl (.pr (.int .i64) .bool)), ops⟩ : Dat), (⟨(.int .i64), (l.getD (v22).toNat (0 : Int))⟩ : Dat)]))), (1, [], .v (.c (.ptr 30401 0))), (2, [], .v (.c (.ptr 30400 0))), (7, [], .v (.c (.p .bool (decide ((0 : Int) < (l30403.length : Int)))))), (8, [(7, true)], .v (.c (.fn 61 [(⟨(.sl (.pr (.int .i64) .bool)), ops⟩ : Dat), (⟨(.int .i64), (l.getD (v22).toNat (0 : Int))⟩ : Dat)]))), (14, [(7, true)], .v (.c (.p (.int .i64) (l30403.getD ((((l30403.length : Int) - (1 : Int))).toNat) (0 : Int))))), (34, [], .v (.c (.ad (.sl (.pr (.int .i64) .bool)) ops))), (39, [], .v (.c (.ptr 30400 0))), (40, [], .v (.c (.ptr 30401 0))), (41, [], .v (.c (.cl 59 [.pt 30401 0, .pt 30400 0]))), (44, [], .v (.c (.ad (.int .i64) (l.getD (v22).toNat (0 : Int))))), (52, [], .v (.c (.p (.sl (.int .i64)) l))), (53, [], .v (.c (.p (.int .i64) (l.length : Int)))), (54, [], .v (.c (.p (.int .i64) v22)))], [(30400, [], .box [.own 30402]), (30401, [], .box [.own 30403]), (30402, [], .arr 3 (.int .i64) l30402), (30403, [], .arr 3 (.int .i64) l30403)]⟩ : St)) (by kernel_rfl) ⟨trivial, trivial, trivial, trivial, (fun _ => trivial), (fun _ => trivial), (fun _ => trivial), (fun _ => trivial), o1, o2, (fun _ => trivial), trivial⟩ ?_
                        refine awl_callk (p := [(7, true)]) (l := [toV1 (.int .i64) (l30403.getD ((((l30403.length : Int) - (1 : Int))).toNat) (0 : Int))]) (cl := [.c (.ad (.sl (.pr (.int .i64) .bool)) ops), .c (.ad (.int .i64) (l.getD (v22).toNat (0 : Int)))]) false [.d (.int .i64)] [0, 1, 2, 7, 15, 34, 39, 40, 41, 44, 52, 53, 54] [30400, 30401, 30402, 30403] (fun (ret15v2 : Bool) => ((((decide ((0 : Int) < (l30403.length : Int))) && (!ret15v2)) = true → (InR ((l30403.length : Int) - (1 : Int)) ∧ inIdx ((l30403.length : Int) - (1 : Int)) l30403.length ∧ (roomN (l30402.length + [(l30403.getD ((((l30403.length : Int) - (1 : Int))).toNat) (0 : Int))].length) ∧ (InR ((l30403.length : Int) - (1 : Int)) ∧ (0 ≤ ((l30403.length : Int) - (1 : Int)) ∧ ((l30403.length : Int) - (1 : Int)) ≤ (l30403.length : Int)) ∧ X4 ((l30402 ++ [(l30403.getD ((((l30403.length : Int) - (1 : Int))).toNat) (0 : Int))]), (l30403.take ((((l30403.length : Int) - (1 : Int))).toNat))))))) ∧ (((decide ((0 : Int) < (l30403.length : Int))) && (!ret15v2)) = false → VC32_k7 l v22 X2 l30402 l30403))) (fun ret15v2 => [toV1 .bool ret15v2]) (fun ret15v2 => (⟨32, [(0, [], .v (.c (.fn 61 [(⟨(.sl (.pr (.int .i64) .bool)), ops⟩ : Dat), (⟨(.int .i64), (l.getD (v22).toNat (0 : Int))⟩ : Dat)]))), (1, [], .v (.c (.ptr 30401 0))), (2, [], .v (.c (.ptr 30400 0))), (7, [], .v (.c (.p .bool (decide ((0 : Int) < (l30403.length : Int)))))), (15, [(7, true)], .v (.c (.p .bool ret15v2))), (34, [], .v (.c (.ad (.sl (.pr (.int .i64) .bool)) ops))), (39, [], .v (.c (.ptr 30400 0))), (40, [], .v (.c (.ptr 30401 0))), (41, [], .v (.c (.cl 59 [.pt 30401 0, .pt 30400 0]))), (44, [], .v (.c (.ad (.int .i64) (l.getD (v22).toNat (0 : Int))))), (52, [], .v (.c (.p (.sl (.int .i64)) l))), (53, [], .v (.c (.p (.int .i64) (l.length : Int)))), (54, [], .v (.c (.p (.int .i64) v22)))], [(30400, [], .box [.own 30402]), (30401, [], .box [.own 30403]), (30402, [], .arr 3 (.int .i64) l30402), (30403, [], .arr 3 (.int .i64) l30403)]⟩ : St)) (by kernel_rfl) rfl (by kernel_rfl) rfl (by kernel_rfl) Try.call61 (by kernel_rfl) (fun ret15v2 => by kernel_rfl) (fun e => by cases e) (fun hg => link61 (l30403.getD ((((l30403.length : Int) - (1 : Int))).toNat) (0 : Int)) ops (l.getD (v22).toNat (0 : Int)) _ (by have := gcall_T h (show (decide ((0 : Int) < (l30403.length : Int))) = true from hg); exact this)) (fun hg => ⟨false, by have := gcall_F h (show (decide ((0 : Int) < (l30403.length : Int))) = false from hg); exact this⟩) (fun ret15v2 h => ?_)
                        have h : ((((decide ((0 : Int) < (l30403.length : Int))) && (!ret15v2)) = true → (InR ((l30403.length : Int) - (1 : Int)) ∧ inIdx ((l30403.length : Int) - (1 : Int)) l30403.length ∧ (roomN (l30402.length + [(l30403.getD ((((l30403.length : Int) - (1 : Int))).toNat) (0 : Int))].length) ∧ (InR ((l30403.length : Int) - (1 : Int)) ∧ (0 ≤ ((l30403.length : Int) - (1 : Int)) ∧ ((l30403.length : Int) - (1 : Int)) ≤ (l30403.length : Int)) ∧ X4 ((l30402 ++ [(l30403.getD ((((l30403.length : Int) - (1 : Int))).toNat) (0 : Int))]), (l30403.take ((((l30403.length : Int) - (1 : Int))).toNat))))))) ∧ (((decide ((0 : Int) < (l30403.length : Int))) && (!ret15v2)) = false → VC32_k7 l v22 X2 l30402 l30403)) := h
                        refine awl_runp 2 [0, 1, 2, 17, 34, 39, 40, 41, 44, 52, 53, 54] [30400, 30401, 30402, 30403] (ob := (((decide ((0 : Int) < (l30403.length : Int))) = true → True) ∧ True ∧ True)) (st' := (⟨32, [(0, [], .v (.c (.fn 61 [(⟨(.sl (.pr (.int .i64) .bool)), ops⟩ : Dat), (⟨(.int .i64), (l.getD (v22).toNat (0 : Int))⟩ : Dat)]))), (1, [], .v (.c (.ptr 30401 0))), (2, [], .v (.c (.ptr 30400 0))), (17, [], .v (.c (.p .bool ((decide ((0 : Int) < (l30403.length : Int))) && (!ret15v2))))), (34, [], .v (.c (.ad (.sl (.pr (.int .i64) .bool)) ops))), (39, [], .v (.c (.ptr 30400 0))), (40, [], .v (.c (.ptr 30401 0))), (41, [], .v (.c (.cl 59 [.pt 30401 0, .pt 30400 0]))), (44, [], .v (.c (.ad (.int .i64) (l.getD (v22).toNat (0 : Int))))), (52, [], .v (.c (.p (.sl (.int .i64)) l))), (53, [], .v (.c (.p (.int .i64) (l.length : Int)))), (54, [], .v (.c (.p (.int .i64) v22)))], [(30400, [], .box [.own 30402]), (30401, [], .box [.own 30403]), (30402, [], .arr 3 (.int .i64) l30402), (30403, [], .arr 3 (.int .i64) l30403)]⟩ : St)) (by kernel_rfl) ⟨(fun _ => trivial), trivial, trivial⟩ ?_
                        refine awl_nil ?_
                        refine thenQ_n ?_
                        refine aw_cond (b := ((decide ((0 : Int) < (l30403.length : Int))) && (!ret15v2))) (by kernel_rfl) (fun hb => ?_) (fun hb => ?_)
                        · have h := h.1 hb
                          refine aw_skip ?_
                          refine thenQ_n ?_
                          refine aw_block ?_
                          refine aw_seq ?_
                          refine awd_begin [30400, 30402] (by kernel_rfl) ?_
                          refine awd_memo ((roomN (l30402.length + [(l30403.getD ((((l30403.length : Int) - (1 : Int))).toNat) (0 : Int))].length) ∧ (InR ((l30403.length : Int) - (1 : Int)) ∧ (0 ≤ ((l30403.length : Int) - (1 : Int)) ∧ ((l30403.length : Int) - (1 : Int)) ≤ (l30403.length : Int)) ∧ X4 ((l30402 ++ [(l30403.getD ((((l30403.length : Int) - (1 : Int))).toNat) (0 : Int))]), (l30403.take ((((l30403.length : Int) - (1 : Int))).toNat)))))) [7, 0, 6, 5, 4, 3, 2, 1] (⟨32, [(0, [], .v (.c (.fn 61 [(⟨(.sl (.pr (.int .i64) .bool)), ops⟩ : Dat), (⟨(.int .i64), (l.getD (v22).toNat (0 : Int))⟩ : Dat)]))), (1, [], .v (.c (.ptr 30401 0))), (2, [], .v (.c (.ptr 30400 0))), (18, [], .v (.c (.own 30402))), (25, [], .v (.c (.own 25))), (34, [], .v (.c (.ad (.sl (.pr (.int .i64) .bool)) ops))), (39, [], .v (.c (.ptr 30400 0))), (40, [], .v (.c (.ptr 30401 0))), (41, [], .v (.c (.cl 59 [.pt 30401 0, .pt 30400 0]))), (44, [], .v (.c (.ad (.int .i64) (l.getD (v22).toNat (0 : Int))))), (52, [], .v (.c (.p (.sl (.int .i64)) l))), (53, [], .v (.c (.p (.int .i64) (l.length : Int)))), (54, [], .v (.c (.p (.int .i64) v22)))], [(25, [], .arr 3 (.int .i64) [(l30403.getD ((((l30403.length : Int) - (1 : Int))).toNat) (0 : Int))]), (30400, [], .box [.own 30402]), (30401, [], .box [.own 30403]), (30402, [], .arr 3 (.int .i64) l30402), (30403, [], .arr 3 (.int .i64) l30403)]⟩ : St) (fun h => ?_) (fun m3 => ?_)
                          · refine awd_one (i := 8) (by kernel_rfl) ?_
                            obtain ⟨o1, h⟩ := h
                            refine adop_stepp [0, 1, 2, 26, 34, 39, 40, 41, 44, 52, 53, 54] [26, 30400, 30401, 30403] (ob := roomN (l30402.length + [(l30403.getD ((((l30403.length : Int) - (1 : Int))).toNat) (0 : Int))].length)) (st' := (⟨32, [(0, [], .v (.c (.fn 61 [(⟨(.sl (.pr (.int .i64) .bool)), ops⟩ : Dat), (⟨(.int .i64), (l.getD (v22).toNat (0 : Int))⟩ : Dat)]))), (1, [], .v (.c (.ptr 30401 0))), (2, [], .v (.c (.ptr 30400 0))), (26, [], .v (.c (.own 26))), (34, [], .v (.c (.ad (.sl (.pr (.int .i64) .bool)) ops))), (39, [], .v (.c (.ptr 30400 0))), (40, [], .v (.c (.ptr 30401 0))), (41, [], .v (.c (.cl 59 [.pt 30401 0, .pt 30400 0]))), (44, [], .v (.c (.ad (.int .i64) (l.getD (v22).toNat (0 : Int))))), (52, [], .v (.c (.p (.sl (.int .i64)) l))), (53, [], .v (.c (.p (.int .i64) (l.length : Int)))), (54, [], .v (.c (.p (.int .i64) v22)))], [(26, [], .arr 3 (.int .i64) (l30402 ++ [(l30403.getD ((((l30403.length : Int) - (1 : Int))).toNat) (0 : Int))])), (30400, [], .box [.any]), (30401, [], .box [.own 30403]), (30403, [], .arr 3 (.int .i64) l30403)]⟩ : St)) rfl (by kernel_rfl) o1 ?_
                            refine awd_one (i := 9) (by kernel_rfl) ?_
                            refine adop_stepp [0, 1, 2, 34, 39, 40, 41, 44, 52, 53, 54] [26, 30400, 30401, 30403] (ob := True) (st' := (⟨32, [(0, [], .v (.c (.fn 61 [(⟨(.sl (.pr (.int .i64) .bool)), ops⟩ : Dat), (⟨(.int .i64), (l.getD (v22).toNat (0 : Int))⟩ : Dat)]))), (1, [], .v (.c (.ptr 30401 0))), (2, [], .v (.c (.ptr 30400 0))), (34, [], .v (.c (.ad (.sl (.pr (.int .i64) .bool)) ops))), (39, [], .v (.c (.ptr 30400 0))), (40, [], .v (.c (.ptr 30401 0))), (41, [], .v (.c (.cl 59 [.pt 30401 0, .pt 30400 0]))), (44, [], .v (.c (.ad (.int .i64) (l.getD (v22).toNat (0 : Int))))), (52, [], .v (.c (.p (.sl (.int .i64)) l))), (53, [], .v (.c (.p (.int .i64) (l.length : Int)))), (54, [], .v (.c (.p (.int .i64) v22)))], [(26, [], .arr 3 (.int .i64) (l30402 ++ [(l30403.getD ((((l30403.length : Int) - (1 : Int))).toNat) (0 : Int))])), (30400, [], .box [.own 26]), (30401, [], .box [.own 30403]), (30403, [], .arr 3 (.int .i64) l30403)]⟩ : St)) rfl (by kernel_rfl) trivial ?_
                            refine awd_done (by kernel_rfl) ?_
                            refine thenQ_n ?_
                            refine aw_region ?_
                            obtain ⟨o1, o2, h⟩ := h
                            refine awl_runp 6 [0, 1, 2, 34, 39, 40, 41, 44, 52, 53, 54] [26, 30400, 30401, 30403] (ob := (True ∧ True ∧ True ∧ InR ((l30403.length : Int) - (1 : Int)) ∧ (0 ≤ ((l30403.length : Int) - (1 : Int)) ∧ ((l30403.length : Int) - (1 : Int)) ≤ (l30403.length : Int)) ∧ True ∧ True)) (st' := (⟨32, [(0, [], .v (.c (.fn 61 [(⟨(.sl (.pr (.int .i64) .bool)), ops⟩ : Dat), (⟨(.int .i64), (l.getD (v22).toNat (0 : Int))⟩ : Dat)]))), (1, [], .v (.c (.ptr 30401 0))), (2, [], .v (.c (.ptr 30400 0))), (34, [], .v (.c (.ad (.sl (.pr (.int .i64) .bool)) ops))), (39, [], .v (.c (.ptr 30400 0))), (40, [], .v (.c (.ptr 30401 0))), (41, [], .v (.c (.cl 59 [.pt 30401 0, .pt 30400 0]))), (44, [], .v (.c (.ad (.int .i64) (l.getD (v22).toNat (0 : Int))))), (52, [], .v (.c (.p (.sl (.int .i64)) l))), (53, [], .v (.c (.p (.int .i64) (l.length : Int)))), (54, [], .v (.c (.p (.int .i64) v22)))], [(26, [], .arr 3 (.int .i64) (l30402 ++ [(l30403.getD ((((l30403.length : Int) - (1 : Int))).toNat) (0 : Int))])), (30400, [], .box [.own 26]), (30401, [], .box [.vw 30403 0 ((((l30403.length : Int) - (1 : Int))).toNat) 1]), (30403, [], .arr 3 (.int .i64) l30403)]⟩ : St)) (by kernel_rfl) ⟨trivial, trivial, trivial, o1, o2, trivial, trivial⟩ ?_
                            refine awl_conv [.cutB 30401 0, .ren 26 20026, .ren 20026 30402, .prune [0, 1, 2, 34, 39, 40, 41, 44, 52, 53, 54] [30400, 30401, 30402, 30403]] (st' := (⟨32, [(0, [], .v (.c (.fn 61 [(⟨(.sl (.pr (.int .i64) .bool)), ops⟩ : Dat), (⟨(.int .i64), (l.getD (v22).toNat (0 : Int))⟩ : Dat)]))), (1, [], .v (.c (.ptr 30401 0))), (2, [], .v (.c (.ptr 30400 0))), (34, [], .v (.c (.ad (.sl (.pr (.int .i64) .bool)) ops))), (39, [], .v (.c (.ptr 30400 0))), (40, [], .v (.c (.ptr 30401 0))), (41, [], .v (.c (.cl 59 [.pt 30401 0, .pt 30400 0]))), (44, [], .v (.c (.ad (.int .i64) (l.getD (v22).toNat (0 : Int))))), (52, [], .v (.c (.p (.sl (.int .i64)) l))), (53, [], .v (.c (.p (.int .i64) (l.length : Int)))), (54, [], .v (.c (.p (.int .i64) v22)))], [(30400, [], .box [.own 30402]), (30401, [], .box [.own 30403]), (30402, [], .arr 3 (.int .i64) (l30402 ++ [(l30403.getD ((((l30403.length : Int) - (1 : Int))).toNat) (0 : Int))])), (30403, [], .arr 3 (.int .i64) (l30403.take ((((l30403.length : Int) - (1 : Int))).toNat)))]⟩ : St)) (by kernel_rfl) ?_
                            refine awl_nil ?_
                            refine blockQ_n ?_
                            exact thenQ_n ⟨((l30402 ++ [(l30403.getD ((((l30403.length : Int) - (1 : Int))).toNat) (0 : Int))]), (l30403.take ((((l30403.length : Int) - (1 : Int))).toNat))), rfl, h⟩
                          · obtain ⟨o1, o2, h⟩ := h
                            refine awd_runp (by kernel_rfl) [1, 2, 3, 4, 5, 6] [0, 1, 2, 24, 34, 39, 40, 41, 44, 52, 53, 54] [30400, 30401, 30402, 30403] (ob := (True ∧ True ∧ True ∧ InR ((l30403.length : Int) - (1 : Int)) ∧ inIdx ((l30403.length : Int) - (1 : Int)) l30403.length ∧ True ∧ True)) (done' := [6, 5, 4, 3, 2, 1]) (st' := (⟨32, [(0, [], .v (.c (.fn 61 [(⟨(.sl (.pr (.int .i64) .bool)), ops⟩ : Dat), (⟨(.int .i64), (l.getD (v22).toNat (0 : Int))⟩ : Dat)]))), (1, [], .v (.c (.ptr 30401 0))), (2, [], .v (.c (.ptr 30400 0))), (24, [], .v (.c (.p (.int .i64) (l30403.getD ((((l30403.length : Int) - (1 : Int))).toNat) (0 : Int))))), (34, [], .v (.c (.ad (.sl (.pr (.int .i64) .bool)) ops))), (39, [], .v (.c (.ptr 30400 0))), (40, [], .v (.c (.ptr 30401 0))), (41, [], .v (.c (.cl 59 [.pt 30401 0, .pt 30400 0]))), (44, [], .v (.c (.ad (.int .i64) (l.getD (v22).toNat (0 : Int))))), (52, [], .v (.c (.p (.sl (.int .i64)) l))), (53, [], .v (.c (.p (.int .i64) (l.length : Int)))), (54, [], .v (.c (.p (.int .i64) v22)))], [(30400, [], .box [.own 30402]), (30401, [], .box [.own 30403]), (30402, [], .arr 3 (.int .i64) l30402), (30403, [], .arr 3 (.int .i64) l30403)]⟩ : St)) (by kernel_rfl) ⟨trivial, trivial, trivial, o1, o2, trivial, trivial⟩ ?_
                            refine awd_two (i := 0) (j := 7) (by kernel_rfl) ?_ ?_
                            · have h := h
                              refine adop_stepp [0, 1, 2, 18, 24, 34, 39, 40, 41, 44, 52, 53, 54] [30400, 30401, 30402, 30403] (ob := True) (st' := (⟨32, [(0, [], .v (.c (.fn 61 [(⟨(.sl (.pr (.int .i64) .bool)), ops⟩ : Dat), (⟨(.int .i64), (l.getD (v22).toNat (0 : Int))⟩ : Dat)]))), (1, [], .v (.c (.ptr 30401 0))), (2, [], .v (.c (.ptr 30400 0))), (18, [], .v (.c (.own 30402))), (24, [], .v (.c (.p (.int .i64) (l30403.getD ((((l30403.length : Int) - (1 : Int))).toNat) (0 : Int))))), (34, [], .v (.c (.ad (.sl (.pr (.int .i64) .bool)) ops))), (39, [], .v (.c (.ptr 30400 0))), (40, [], .v (.c (.ptr 30401 0))), (41, [], .v (.c (.cl 59 [.pt 30401 0, .pt 30400 0]))), (44, [], .v (.c (.ad (.int .i64) (l.getD (v22).toNat (0 : Int))))), (52, [], .v (.c (.p (.sl (.int .i64)) l))), (53, [], .v (.c (.p (.int .i64) (l.length : Int)))), (54, [], .v (.c (.p (.int .i64) v22)))], [(30400, [], .box [.own 30402]), (30401, [], .box [.own 30403]), (30402, [], .arr 3 (.int .i64) l30402), (30403, [], .arr 3 (.int .i64) l30403)]⟩ : St)) rfl (by kernel_rfl) trivial ?_
                              refine awd_one (i := 7) (by kernel_rfl) ?_
                              refine adop_stepp [0, 1, 2, 18, 25, 34, 39, 40, 41, 44, 52, 53, 54] [25, 30400, 30401, 30402, 30403] (ob := True) (st' := (⟨32, [(0, [], .v (.c (.fn 61 [(⟨(.sl (.pr (.int .i64) .bool)), ops⟩ : Dat), (⟨(.int .i64), (l.getD (v22).toNat (0 : Int))⟩ : Dat)]))), (1, [], .v (.c (.ptr 30401 0))), (2, [], .v (.c (.ptr 30400 0))), (18, [], .v (.c (.own 30402))), (25, [], .v (.c (.own 25))), (34, [], .v (.c (.ad (.sl (.pr (.int .i64) .bool)) ops))), (39, [], .v (.c (.ptr 30400 0))), (40, [], .v (.c (.ptr 30401 0))), (41, [], .v (.c (.cl 59 [.pt 30401 0, .pt 30400 0]))), (44, [], .v (.c (.ad (.int .i64) (l.getD (v22).toNat (0 : Int))))), (52, [], .v (.c (.p (.sl (.int .i64)) l))), (53, [], .v (.c (.p (.int .i64) (l.length : Int)))), (54, [], .v (.c (.p (.int .i64) v22)))], [(25, [], .arr 3 (.int .i64) [(l30403.getD ((((l30403.length : Int) - (1 : Int))).toNat) (0 : Int))]), (30400, [], .box [.own 30402]), (30401, [], .box [.own 30403]), (30402, [], .arr 3 (.int .i64) l30402), (30403, [], .arr 3 (.int .i64) l30403)]⟩ : St)) rfl (by kernel_rfl) trivial ?_
                              exact m3 h
                            · have h := h
                              refine adop_stepp [0, 1, 2, 25, 34, 39, 40, 41, 44, 52, 53, 54] [25, 30400, 30401, 30402, 30403] (ob := True) (st' := (⟨32, [(0, [], .v (.c (.fn 61 [(⟨(.sl (.pr (.int .i64) .bool)), ops⟩ : Dat), (⟨(.int .i64), (l.getD (v22).toNat (0 : Int))⟩ : Dat)]))), (1, [], .v (.c (.ptr 30401 0))), (2, [], .v (.c (.ptr 30400 0))), (25, [], .v (.c (.own 25))), (34, [], .v (.c (.ad (.sl (.pr (.int .i64) .bool)) ops))), (39, [], .v (.c (.ptr 30400 0))), (40, [], .v (.c (.ptr 30401 0))), (41, [], .v (.c (.cl 59 [.pt 30401 0, .pt 30400 0]))), (44, [], .v (.c (.ad (.int .i64) (l.getD (v22).toNat (0 : Int))))), (52, [], .v (.c (.p (.sl (.int .i64)) l))), (53, [], .v (.c (.p (.int .i64) (l.length : Int)))), (54, [], .v (.c (.p (.int .i64) v22)))], [(25, [], .arr 3 (.int .i64) [(l30403.getD ((((l30403.length : Int) - (1 : Int))).toNat) (0 : Int))]), (30400, [], .box [.own 30402]), (30401, [], .box [.own 30403]), (30402, [], .arr 3 (.int .i64) l30402), (30403, [], .arr 3 (.int .i64) l30403)]⟩ : St)) rfl (by kernel_rfl) trivial ?_
                              refine awd_one (i := 0) (by kernel_rfl) ?_
                              refine adop_stepp [0, 1, 2, 18, 25, 34, 39, 40, 41, 44, 52, 53, 54] [25, 30400, 30401, 30402, 30403] (ob := True) (st' := (⟨32, [(0, [], .v (.c (.fn 61 [(⟨(.sl (.pr (.int .i64) .bool)), ops⟩ : Dat), (⟨(.int .i64), (l.getD (v22).toNat (0 : Int))⟩ : Dat)]))), (1, [], .v (.c (.ptr 30401 0))), (2, [], .v (.c (.ptr 30400 0))), (18, [], .v (.c (.own 30402))), (25, [], .v (.c (.own 25))), (34, [], .v (.c (.ad (.sl (.pr (.int .i64) .bool)) ops))), (39, [], .v (.c (.ptr 30400 0))), (40, [], .v (.c (.ptr 30401 0))), (41, [], .v (.c (.cl 59 [.pt 30401 0, .pt 30400 0]))), (44, [], .v (.c (.ad (.int .i64) (l.getD (v22).toNat (0 : Int))))), (52, [], .v (.c (.p (.sl (.int .i64)) l))), (53, [], .v (.c (.p (.int .i64) (l.length : Int)))), (54, [], .v (.c (.p (.int .i64) v22)))], [(25, [], .arr 3 (.int .i64) [(l30403.getD ((((l30403.length : Int) - (1 : Int))).toNat) (0 : Int))]), (30400, [], .box [.own 30402]), (30401, [], .box [.own 30403]), (30402, [], .arr 3 (.int .i64) l30402), (30403, [], .arr 3 (.int .i64) l30403)]⟩ : St)) rfl (by kernel_rfl) trivial ?_
                              refine awd_perm [7, 0, 6, 5, 4, 3, 2, 1] (by kernel_rfl) (by kernel_rfl) ?_
                              exact m3 h
                        · have h := h.2 hb
                          refine aw_conv [.prune [34, 39, 40, 41, 44, 52, 53, 54] [30400, 30401, 30402, 30403]] (st' := (⟨32, [(34, [], .v (.c (.ad (.sl (.pr (.int .i64) .bool)) ops))), (39, [], .v (.c (.ptr 30400 0))), (40, [], .v (.c (.ptr 30401 0))), (41, [], .v (.c (.cl 59 [.pt 30401 0, .pt 30400 0]))), (44, [], .v (.c (.ad (.int .i64) (l.getD (v22).toNat (0 : Int))))), (52, [], .v (.c (.p (.sl (.int .i64)) l))), (53, [], .v (.c (.p (.int .i64) (l.length : Int)))), (54, [], .v (.c (.p (.int .i64) v22)))], [(30400, [], .box [.own 30402]), (30401, [], .box [.own 30403]), (30402, [], .arr 3 (.int .i64) l30402), (30403, [], .arr 3 (.int .i64) l30403)]⟩ : St)) (by kernel_rfl) ?_
                          refine aw_exit ?_
                          refine thenQ_x ?_
                          refine thenQ_x ?_
                          refine blockQ_hit ?_
                          exact rest7 (l30402, l30403) h
      · have h := h.2 hb
        refine aw_conv [.prune [7, 8, 9, 10] [7, 8, 6140, 6160]] (st' := (⟨76, [(7, [], .v (.c (.ptr 7 0))), (8, [], .v (.c (.ptr 8 0))), (9, [], .v (.c (.cl 59 [.pt 8 0, .pt 7 0]))), (10, [], .v (.c (.p .bool operand)))], [(7, [], .box [.own 6140]), (8, [], .box [.own 6160]), (6140, [], .arr 3 (.int .i64) l6140), (6160, [], .arr 3 (.int .i64) l6160)]⟩ : St)) (by kernel_rfl) ?_
        refine aw_exit ?_
        refine thenQ_x ?_
        refine thenQ_x ?_
        refine blockQ_hit ?_
        exact rest2 (operand, l6140, l6160) h

-- coppicer/coppicerref.Ints
def VC33_k1 (K : Bool → Prop) : Prop :=
  K true

def VC33_l1 (a : (List Int)) (b : (List Int)) (K : Bool → Prop) (i : Int) (X1 : Int → Prop) : Prop :=
  (((decide (i < (a.length : Int))) = true → (inIdx i a.length ∧ inIdx i b.length ∧ (((!decide ((a.getD (i).toNat (0 : Int)) = (b.getD (i).toNat (0 : Int)))) = true → K false) ∧ ((!decide ((a.getD (i).toNat (0 : Int)) = (b.getD (i).toNat (0 : Int)))) = false → (InR (i + (1 : Int)) ∧ X1 (i + (1 : Int))))))) ∧ ((decide (i < (a.length : Int))) = false → VC33_k1 K))

def VC33 (a : (List Int)) (b : (List Int)) (K : Bool → Prop) : Prop :=
  (((!decide ((a.length : Int) = (b.length : Int))) = true → K false) ∧ ((!decide ((a.length : Int) = (b.length : Int))) = false → Loop (σ := Int) (fun s X => VC33_l1 a b K s X) (0 : Int)))

set_option maxHeartbeats 4000000 in
theorem link33 (a : (List Int)) (b : (List Int)) (K : Bool → Prop) (h : VC33 a b K) : ACalls Try.prog 33 [toV1 (.sl (.int .i64)) a, toV1 (.sl (.int .i64)) b] (fun res => ∃ y, res = (fun y => [toV1 .bool y]) y ∧ K y) := by
  refine acalls_of_aw [.bool] [.t 4] Try.func33 rfl rfl rfl ?_
  unfold VC33 at h
  refine aw_seq ?_
  refine aw_region ?_
  refine awl_runp 1 [0, 1] [] (ob := (True ∧ True)) (st' := (⟨26, [(0, [], .v (.c (.p (.sl (.int .i64)) a))), (1, [], .v (.c (.p (.sl (.int .i64)) b)))], []⟩ : St)) (by kernel_rfl) ⟨trivial, trivial⟩ ?_
  refine awl_nil ?_
  refine thenQ_n ?_
  refine aw_seq ?_
  refine aw_seq ?_
  refine aw_region ?_
  refine awl_runp 5 [0, 1, 10] [] (ob := (True ∧ True ∧ True ∧ True ∧ True ∧ True)) (st' := (⟨26, [(0, [], .v (.c (.p (.sl (.int .i64)) a))), (1, [], .v (.c (.p (.sl (.int .i64)) b))), (10, [], .v (.c (.p .bool (!decide ((a.length : Int) = (b.length : Int))))))], []⟩ : St)) (by kernel_rfl) ⟨trivial, trivial, trivial, trivial, trivial, trivial⟩ ?_
  refine awl_nil ?_
  refine thenQ_n ?_
  refine aw_cond (b := (!decide ((a.length : Int) = (b.length : Int)))) (by kernel_rfl) (fun hb => ?_) (fun hb => ?_)
  · have h := h.1 hb
    refine aw_seq ?_
    refine aw_region ?_
    refine awl_runp 1 [4] [] (ob := (True ∧ True)) (st' := (⟨26, [(4, [], .v (.c (.p .bool false)))], []⟩ : St)) (by kernel_rfl) ⟨trivial, trivial⟩ ?_
    refine awl_nil ?_
    refine thenQ_n ?_
    refine aw_ret ?_
    refine thenQ_r ?_
    exact retQ_r (σ := Bool) (R := (fun y => [toV1 .bool y])) (ob := (True ∧ True)) false (by kernel_rfl) ⟨trivial, trivial⟩ h
  · have h := h.2 hb
    refine aw_skip ?_
    refine thenQ_n ?_
    refine aw_seq ?_
    refine aw_seq ?_
    refine aw_region ?_
    refine awl_runp 1 [0, 1, 5] [] (ob := (True ∧ True)) (st' := (⟨26, [(0, [], .v (.c (.p (.sl (.int .i64)) a))), (1, [], .v (.c (.p (.sl (.int .i64)) b))), (5, [], .v (.c (.p (.int .i64) (0 : Int))))], []⟩ : St)) (by kernel_rfl) ⟨trivial, trivial⟩ ?_
    refine awl_nil ?_
    refine thenQ_n ?_
    refine withJoin (σ := Unit) (fun s => (⟨26, [], []⟩ : St)) (fun s => VC33_k1 K) (fun s h => ?_) (fun rest1 => ?_)
    · have h : VC33_k1 K := h
      unfold VC33_k1 at h
      refine thenQ_n ?_
      refine aw_seq ?_
      refine aw_region ?_
      refine awl_runp 1 [4] [] (ob := (True ∧ True)) (st' := (⟨26, [(4, [], .v (.c (.p .bool true)))], []⟩ : St)) (by kernel_rfl) ⟨trivial, trivial⟩ ?_
      refine awl_nil ?_
      refine thenQ_n ?_
      refine aw_ret ?_
      exact retQ_r (σ := Bool) (R := (fun y => [toV1 .bool y])) (ob := (True ∧ True)) true (by kernel_rfl) ⟨trivial, trivial⟩ h
    · refine aw_block ?_
      refine aw_loop (σ := Int) (fun s => (⟨26, [(0, [], .v (.c (.p (.sl (.int .i64)) a))), (1, [], .v (.c (.p (.sl (.int .i64)) b))), (5, [], .v (.c (.p (.int .i64) s)))], []⟩ : St)) (fun s X => VC33_l1 a b K s X) (s0 := (0 : Int)) (fun i X1 h => ?_) h
      have h : VC33_l1 a b K i X1 := h
      unfold VC33_l1 at h
      refine aw_seq ?_
      refine aw_seq ?_
      refine aw_region ?_
      refine awl_runp 4 [0, 1, 5, 14] [] (ob := (True ∧ True ∧ True ∧ True ∧ True)) (st' := (⟨26, [(0, [], .v (.c (.p (.sl (.int .i64)) a))), (1, [], .v (.c (.p (.sl (.int .i64)) b))), (5, [], .v (.c (.p (.int .i64) i))), (14, [], .v (.c (.p .bool (decide (i < (a.length : Int))))))], []⟩ : St)) (by kernel_rfl) ⟨trivial, trivial, trivial, trivial, trivial⟩ ?_
      refine awl_nil ?_
      refine thenQ_n ?_
      refine aw_cond (b := (decide (i < (a.length : Int)))) (by kernel_rfl) (fun hb => ?_) (fun hb => ?_)
      · have h := h.1 hb
        refine aw_skip ?_
        refine thenQ_n ?_
        refine aw_seq ?_
        refine aw_block ?_
        refine aw_seq ?_
        refine awd_begin [] (by kernel_rfl) ?_
        obtain ⟨o1, o2, h⟩ := h
        refine awd_runp (by kernel_rfl) [0, 1, 2, 3, 4, 5, 6, 7, 8] [0, 1, 5, 25] [] (ob := (True ∧ True ∧ inIdx i a.length ∧ True ∧ True ∧ True ∧ inIdx i b.length ∧ True ∧ True ∧ True)) (done' := [8, 7, 6, 5, 4, 3, 2, 1, 0]) (st' := (⟨26, [(0, [], .v (.c (.p (.sl (.int .i64)) a))), (1, [], .v (.c (.p (.sl (.int .i64)) b))), (5, [], .v (.c (.p (.int .i64) i))), (25, [], .v (.c (.p .bool (!decide ((a.getD (i).toNat (0 : Int)) = (b.getD (i).toNat (0 : Int)))))))], []⟩ : St)) (by kernel_rfl) ⟨trivial, trivial, o1, trivial, trivial, trivial, o2, trivial, trivial, trivial⟩ ?_
        refine awd_done (by kernel_rfl) ?_
        refine thenQ_n ?_
        refine aw_cond (b := (!decide ((a.getD (i).toNat (0 : Int)) = (b.getD (i).toNat (0 : Int))))) (by kernel_rfl) (fun hb => ?_) (fun hb => ?_)
        · have h := h.1 hb
          refine aw_seq ?_
          refine aw_region ?_
          refine awl_runp 1 [4] [] (ob := (True ∧ True)) (st' := (⟨26, [(4, [], .v (.c (.p .bool false)))], []⟩ : St)) (by kernel_rfl) ⟨trivial, trivial⟩ ?_
          refine awl_nil ?_
          refine thenQ_n ?_
          refine aw_ret ?_
          refine blockQ_r ?_
          refine thenQ_r ?_
          refine thenQ_r ?_
          refine blockQ_r ?_
          refine thenQ_r ?_
          exact retQ_r (σ := Bool) (R := (fun y => [toV1 .bool y])) (ob := (True ∧ True)) false (by kernel_rfl) ⟨trivial, trivial⟩ h
        · have h := h.2 hb
          refine aw_skip ?_
          refine blockQ_n ?_
          refine thenQ_n ?_
          refine aw_region ?_
          obtain ⟨o1, h⟩ := h
          refine awl_runp 3 [0, 1, 5] [] (ob := (True ∧ InR (i + (1 : Int)) ∧ True ∧ True)) (st' := (⟨26, [(0, [], .v (.c (.p (.sl (.int .i64)) a))), (1, [], .v (.c (.p (.sl (.int .i64)) b))), (5, [], .v (.c (.p (.int .i64) (i + (1 : Int)))))], []⟩ : St)) (by kernel_rfl) ⟨trivial, o1, trivial, trivial⟩ ?_
          refine awl_nil ?_
          exact thenQ_n ⟨(i + (1 : Int)), rfl, h⟩
      · have h := h.2 hb
        refine aw_conv [.prune [] []] (st' := (⟨26, [], []⟩ : St)) (by kernel_rfl) ?_
        refine aw_exit ?_
        refine thenQ_x ?_
        refine thenQ_x ?_
        refine blockQ_hit ?_
        exact rest1 () h

-- coppicer/coppicerkeep.ClimbBack
def VC10 (ops : (List (Int × Bool))) (post : (List Int)) (K : Bool → Prop) : Prop :=
  VC29 ops post (fun (ret12v : (List Int) × Int) => VC30 ops post false (fun (ret17v : Bool) => (((!ret17v) = true → K (!decide (ret12v.2 = (0 : Int)))) ∧ ((!ret17v) = false → (((!decide (ret12v.2 = (0 : Int))) = true → gcall (α := Bool) ((decide ((ret12v.1.length : Int) = (0 : Int))) && (!(decide (ret12v.2 = (1 : Int))))) (VCr31 post) false (fun (ret31v : Bool) => K ((decide ((ret12v.1.length : Int) = (0 : Int))) && ((decide (ret12v.2 = (1 : Int))) || (!ret31v))))) ∧ ((!decide (ret12v.2 = (0 : Int))) = false → VC32 ops ret12v.1 (fun (ret38v : (List Int) × Int) => gcall (α := Bool) (decide (ret38v.2 = (0 : Int))) (VC33 ret38v.1 post) false (fun (ret46v : Bool) => K ((decide (ret38v.2 = (0 : Int))) && ret46v)))))))))

set_option maxHeartbeats 4000000 in
theorem link10 (ops : (List (Int × Bool))) (post : (List Int)) (K : Bool → Prop) (h : VC10 ops post K) : ACalls Try.prog 10 [toV1 (.sl (.pr (.int .i64) .bool)) ops, toV1 (.sl (.int .i64)) post] (fun res => ∃ y, res = (fun y => [toV1 .bool y]) y ∧ K y) := by
  refine acalls_of_aw [.bool] [.t 4] Try.func10 rfl rfl rfl ?_
  unfold VC10 at h
  refine aw_seq ?_
  refine aw_region ?_
  refine awl_runp 1 [0, 1] [] (ob := (True ∧ True)) (st' := (⟨48, [(0, [], .v (.c (.p (.sl (.pr (.int .i64) .bool)) ops))), (1, [], .v (.c (.p (.sl (.int .i64)) post)))], []⟩ : St)) (by kernel_rfl) ⟨trivial, trivial⟩ ?_
  refine awl_nil ?_
  refine thenQ_n ?_
  refine aw_seq ?_
  refine aw_region ?_
  refine awl_runp 2 [0, 1, 10, 11] [] (ob := (True ∧ True ∧ True)) (st' := (⟨48, [(0, [], .v (.c (.p (.sl (.pr (.int .i64) .bool)) ops))), (1, [], .v (.c (.p (.sl (.int .i64)) post))), (10, [], .v (.c (.p (.sl (.pr (.int .i64) .bool)) ops))), (11, [], .v (.c (.p (.sl (.int .i64)) post)))], []⟩ : St)) (by kernel_rfl) ⟨trivial, trivial, trivial⟩ ?_
  refine awl_callk (p := []) (l := [toV1 (.sl (.pr (.int .i64) .bool)) ops, toV1 (.sl (.int .i64)) post]) (cl := []) false [.d (.sl (.pr (.int .i64) .bool)), .d (.sl (.int .i64))] [0, 1, 12] [] (fun (ret12v : (List Int) × Int) => VC30 ops post false (fun (ret17v : Bool) => (((!ret17v) = true → K (!decide (ret12v.2 = (0 : Int)))) ∧ ((!ret17v) = false → (((!decide (ret12v.2 = (0 : Int))) = true → gcall (α := Bool) ((decide ((ret12v.1.length : Int) = (0 : Int))) && (!(decide (ret12v.2 = (1 : Int))))) (VCr31 post) false (fun (ret31v : Bool) => K ((decide ((ret12v.1.length : Int) = (0 : Int))) && ((decide (ret12v.2 = (1 : Int))) || (!ret31v))))) ∧ ((!decide (ret12v.2 = (0 : Int))) = false → VC32 ops ret12v.1 (fun (ret38v : (List Int) × Int) => gcall (α := Bool) (decide (ret38v.2 = (0 : Int))) (VC33 ret38v.1 post) false (fun (ret46v : Bool) => K ((decide (ret38v.2 = (0 : Int))) && ret46v))))))))) (fun ret12v => [toV1 (.sl (.int .i64)) ret12v.1, toV1 (.int .i64) ret12v.2]) (fun ret12v => (⟨48, [(0, [], .v (.c (.p (.sl (.pr (.int .i64) .bool)) ops))), (1, [], .v (.c (.p (.sl (.int .i64)) post))), (12, [], .tup [.c (.p (.sl (.int .i64)) ret12v.1), .c (.p (.int .i64) ret12v.2)])], []⟩ : St)) (by kernel_rfl) rfl (by kernel_rfl) rfl (by kernel_rfl) Try.call29 (by kernel_rfl) (fun ret12v => by kernel_rfl) (fun e => by cases e) (fun hg => link29 ops post _ h) (fun hg => noF hg) (fun ret12v h => ?_)
  have h : VC30 ops post false (fun (ret17v : Bool) => (((!ret17v) = true → K (!decide (ret12v.2 = (0 : Int)))) ∧ ((!ret17v) = false → (((!decide (ret12v.2 = (0 : Int))) = true → gcall (α := Bool) ((decide ((ret12v.1.length : Int) = (0 : Int))) && (!(decide (ret12v.2 = (1 : Int))))) (VCr31 post) false (fun (ret31v : Bool) => K ((decide ((ret12v.1.length : Int) = (0 : Int))) && ((decide (ret12v.2 = (1 : Int))) || (!ret31v))))) ∧ ((!decide (ret12v.2 = (0 : Int))) = false → VC32 ops ret12v.1 (fun (ret38v : (List Int) × Int) => gcall (α := Bool) (decide (ret38v.2 = (0 : Int))) (VC33 ret38v.1 post) false (fun (ret46v : Bool) => K ((decide (ret38v.2 = (0 : Int))) && ret46v)))))))) := h
  refine awl_runp 5 [0, 1, 5, 6] [] (ob := (True ∧ True ∧ True ∧ True ∧ True ∧ True)) (st' := (⟨48, [(0, [], .v (.c (.p (.sl (.pr (.int .i64) .bool)) ops))), (1, [], .v (.c (.p (.sl (.int .i64)) post))), (5, [], .v (.c (.p (.sl (.int .i64)) ret12v.1))), (6, [], .v (.c (.p (.int .i64) ret12v.2)))], []⟩ : St)) (by kernel_rfl) ⟨trivial, trivial, trivial, trivial, trivial, trivial⟩ ?_
  refine awl_nil ?_
  refine thenQ_n ?_
  refine aw_seq ?_
  refine aw_seq ?_
  refine aw_region ?_
  refine awl_runp 2 [0, 1, 5, 6, 15, 16] [] (ob := (True ∧ True ∧ True)) (st' := (⟨48, [(0, [], .v (.c (.p (.sl (.pr (.int .i64) .bool)) ops))), (1, [], .v (.c (.p (.sl (.int .i64)) post))), (5, [], .v (.c (.p (.sl (.int .i64)) ret12v.1))), (6, [], .v (.c (.p (.int .i64) ret12v.2))), (15, [], .v (.c (.p (.sl (.pr (.int .i64) .bool)) ops))), (16, [], .v (.c (.p (.sl (.int .i64)) post)))], []⟩ : St)) (by kernel_rfl) ⟨trivial, trivial, trivial⟩ ?_
  refine awl_callk (p := []) (l := [toV1 (.sl (.pr (.int .i64) .bool)) ops, toV1 (.sl (.int .i64)) post, toV1 .bool false]) (cl := []) false [.d (.sl (.pr (.int .i64) .bool)), .d (.sl (.int .i64)), .d .bool] [0, 1, 5, 6, 17] [] (fun (ret17v : Bool) => (((!ret17v) = true → K (!decide (ret12v.2 = (0 : Int)))) ∧ ((!ret17v) = false → (((!decide (ret12v.2 = (0 : Int))) = true → gcall (α := Bool) ((decide ((ret12v.1.length : Int) = (0 : Int))) && (!(decide (ret12v.2 = (1 : Int))))) (VCr31 post) false (fun (ret31v : Bool) => K ((decide ((ret12v.1.length : Int) = (0 : Int))) && ((decide (ret12v.2 = (1 : Int))) || (!ret31v))))) ∧ ((!decide (ret12v.2 = (0 : Int))) = false → VC32 ops ret12v.1 (fun (ret38v : (List Int) × Int) => gcall (α := Bool) (decide (ret38v.2 = (0 : Int))) (VC33 ret38v.1 post) false (fun (ret46v : Bool) => K ((decide (ret38v.2 = (0 : Int))) && ret46v)))))))) (fun ret17v => [toV1 .bool ret17v]) (fun ret17v => (⟨48, [(0, [], .v (.c (.p (.sl (.pr (.int .i64) .bool)) ops))), (1, [], .v (.c (.p (.sl (.int .i64)) post))), (5, [], .v (.c (.p (.sl (.int .i64)) ret12v.1))), (6, [], .v (.c (.p (.int .i64) ret12v.2))), (17, [], .v (.c (.p .bool ret17v)))], []⟩ : St)) (by kernel_rfl) rfl (by kernel_rfl) rfl (by kernel_rfl) Try.call30 (by kernel_rfl) (fun ret17v => by kernel_rfl) (fun e => by cases e) (fun hg => link30 ops post false _ h) (fun hg => noF hg) (fun ret17v h => ?_)
  have h : (((!ret17v) = true → K (!decide (ret12v.2 = (0 : Int)))) ∧ ((!ret17v) = false → (((!decide (ret12v.2 = (0 : Int))) = true → gcall (α := Bool) ((decide ((ret12v.1.length : Int) = (0 : Int))) && (!(decide (ret12v.2 = (1 : Int))))) (VCr31 post) false (fun (ret31v : Bool) => K ((decide ((ret12v.1.length : Int) = (0 : Int))) && ((decide (ret12v.2 = (1 : Int))) || (!ret31v))))) ∧ ((!decide (ret12v.2 = (0 : Int))) = false → VC32 ops ret12v.1 (fun (ret38v : (List Int) × Int) => gcall (α := Bool) (decide (ret38v.2 = (0 : Int))) (VC33 ret38v.1 post) false (fun (ret46v : Bool) => K ((decide (ret38v.2 = (0 : Int))) && ret46v))))))) := h
  refine awl_runp 1 [0, 1, 5, 6, 18] [] (ob := (True ∧ True)) (st' := (⟨48, [(0, [], .v (.c (.p (.sl (.pr (.int .i64) .bool)) ops))), (1, [], .v (.c (.p (.sl (.int .i64)) post))), (5, [], .v (.c (.p (.sl (.int .i64)) ret12v.1))), (6, [], .v (.c (.p (.int .i64) ret12v.2))), (18, [], .v (.c (.p .bool (!ret17v))))], []⟩ : St)) (by kernel_rfl) ⟨trivial, trivial⟩ ?_
  refine awl_nil ?_
  refine thenQ_n ?_
  refine aw_cond (b := (!ret17v)) (by kernel_rfl) (fun hb => ?_) (fun hb => ?_)
  · have h := h.1 hb
    refine aw_seq ?_
    refine aw_region ?_
    refine awl_runp 3 [4] [] (ob := (True ∧ True ∧ True ∧ True)) (st' := (⟨48, [(4, [], .v (.c (.p .bool (!decide (ret12v.2 = (0 : Int))))))], []⟩ : St)) (by kernel_rfl) ⟨trivial, trivial, trivial, trivial⟩ ?_
    refine awl_nil ?_
    refine thenQ_n ?_
    refine aw_ret ?_
    refine thenQ_r ?_
    exact retQ_r (σ := Bool) (R := (fun y => [toV1 .bool y])) (ob := (True ∧ True)) (!decide (ret12v.2 = (0 : Int))) (by kernel_rfl) ⟨trivial, trivial⟩ h
  · have h := h.2 hb
    refine aw_skip ?_
    refine thenQ_n ?_
    refine aw_seq ?_
    refine aw_seq ?_
    refine aw_region ?_
    refine awl_runp 2 [0, 1, 5, 6, 22] [] (ob := (True ∧ True ∧ True)) (st' := (⟨48, [(0, [], .v (.c (.p (.sl (.pr (.int .i64) .bool)) ops))), (1, [], .v (.c (.p (.sl (.int .i64)) post))), (5, [], .v (.c (.p (.sl (.int .i64)) ret12v.1))), (6, [], .v (.c (.p (.int .i64) ret12v.2))), (22, [], .v (.c (.p .bool (!decide (ret12v.2 = (0 : Int))))))], []⟩ : St)) (by kernel_rfl) ⟨trivial, trivial, trivial⟩ ?_
    refine awl_nil ?_
    refine thenQ_n ?_
    refine aw_cond (b := (!decide (ret12v.2 = (0 : Int)))) (by kernel_rfl) (fun hb => ?_) (fun hb => ?_)
    · have h := h.1 hb
      refine aw_seq ?_
      refine aw_region ?_
      refine awl_runp 8 [26, 29, 30] [] (ob := (True ∧ True ∧ True ∧ True ∧ ((decide ((ret12v.1.length : Int) = (0 : Int))) = true → True) ∧ ((decide ((ret12v.1.length : Int) = (0 : Int))) = true → True) ∧ ((decide ((ret12v.1.length : Int) = (0 : Int))) = true → True) ∧ ((decide ((ret12v.1.length : Int) = (0 : Int))) = true → ((decide (ret12v.2 = (1 : Int))) = false → True)) ∧ True)) (st' := (⟨48, [(26, [], .v (.c (.p .bool (decide ((ret12v.1.length : Int) = (0 : Int)))))), (29, [(26, true)], .v (.c (.p .bool (decide (ret12v.2 = (1 : Int)))))), (30, [(26, true), (29, false)], .v (.c (.p (.sl (.int .i64)) post)))], []⟩ : St)) (by kernel_rfl) ⟨trivial, trivial, trivial, trivial, (fun _ => trivial), (fun _ => trivial), (fun _ => trivial), (fun _ _ => trivial), trivial⟩ ?_
      refine awl_callk (p := [(26, true), (29, false)]) (l := [toV1 (.sl (.int .i64)) post]) (cl := []) false [.d (.sl (.int .i64))] [26, 29, 31] [] (fun (ret31v : Bool) => K ((decide ((ret12v.1.length : Int) = (0 : Int))) && ((decide (ret12v.2 = (1 : Int))) || (!ret31v)))) (fun ret31v => [toV1 .bool ret31v]) (fun ret31v => (⟨48, [(26, [], .v (.c (.p .bool (decide ((ret12v.1.length : Int) = (0 : Int)))))), (29, [(26, true)], .v (.c (.p .bool (decide (ret12v.2 = (1 : Int)))))), (31, [(26, true), (29, false)], .v (.c (.p .bool ret31v)))], []⟩ : St)) (by kernel_rfl) rfl (by kernel_rfl) rfl (by kernel_rfl) Try.call31 (by kernel_rfl) (fun ret31v => by kernel_rfl) (fun e => by cases e) (fun hg => linkr31 post _ (by have := gcall_T h (show ((decide ((ret12v.1.length : Int) = (0 : Int))) && (!(decide (ret12v.2 = (1 : Int))))) = true from hg); exact this)) (fun hg => ⟨false, by have := gcall_F h (show ((decide ((ret12v.1.length : Int) = (0 : Int))) && (!(decide (ret12v.2 = (1 : Int))))) = false from hg); exact this⟩) (fun ret31v h => ?_)
      have h : K ((decide ((ret12v.1.length : Int) = (0 : Int))) && ((decide (ret12v.2 = (1 : Int))) || (!ret31v))) := h
      refine awl_runp 4 [4] [] (ob := (((decide ((ret12v.1.length : Int) = (0 : Int))) = true → ((decide (ret12v.2 = (1 : Int))) = false → True)) ∧ ((decide ((ret12v.1.length : Int) = (0 : Int))) = true → True) ∧ True ∧ True ∧ True)) (st' := (⟨48, [(4, [], .v (.c (.p .bool ((decide ((ret12v.1.length : Int) = (0 : Int))) && ((decide (ret12v.2 = (1 : Int))) || (!ret31v))))))], []⟩ : St)) (by kernel_rfl) ⟨(fun _ _ => trivial), (fun _ => trivial), trivial, trivial, trivial⟩ ?_
      refine awl_nil ?_
      refine thenQ_n ?_
      refine aw_ret ?_
      refine thenQ_r ?_
      exact retQ_r (σ := Bool) (R := (fun y => [toV1 .bool y])) (ob := (True ∧ True)) ((decide ((ret12v.1.length : Int) = (0 : Int))) && ((decide (ret12v.2 = (1 : Int))) || (!ret31v))) (by kernel_rfl) ⟨trivial, trivial⟩ h
    · have h := h.2 hb
      refine aw_skip ?_
      refine thenQ_n ?_
      refine aw_seq ?_
      refine aw_region ?_
      refine awl_runp 2 [1, 36, 37] [] (ob := (True ∧ True ∧ True)) (st' := (⟨48, [(1, [], .v (.c (.p (.sl (.int .i64)) post))), (36, [], .v (.c (.p (.sl (.pr (.int .i64) .bool)) ops))), (37, [], .v (.c (.p (.sl (.int .i64)) ret12v.1)))], []⟩ : St)) (by kernel_rfl) ⟨trivial, trivial, trivial⟩ ?_
      refine awl_callk (p := []) (l := [toV1 (.sl (.pr (.int .i64) .bool)) ops, toV1 (.sl (.int .i64)) ret12v.1]) (cl := []) false [.d (.sl (.pr (.int .i64) .bool)), .d (.sl (.int .i64))] [1, 38] [] (fun (ret38v : (List Int) × Int) => gcall (α := Bool) (decide (ret38v.2 = (0 : Int))) (VC33 ret38v.1 post) false (fun (ret46v : Bool) => K ((decide (ret38v.2 = (0 : Int))) && ret46v))) (fun ret38v => [toV1 (.sl (.int .i64)) ret38v.1, toV1 (.int .i64) ret38v.2]) (fun ret38v => (⟨48, [(1, [], .v (.c (.p (.sl (.int .i64)) post))), (38, [], .tup [.c (.p (.sl (.int .i64)) ret38v.1), .c (.p (.int .i64) ret38v.2)])], []⟩ : St)) (by kernel_rfl) rfl (by kernel_rfl) rfl (by kernel_rfl) Try.call32 (by kernel_rfl) (fun ret38v => by kernel_rfl) (fun e => by cases e) (fun hg => link32 ops ret12v.1 _ h) (fun hg => noF hg) (fun ret38v h => ?_)
      have h : gcall (α := Bool) (decide (ret38v.2 = (0 : Int))) (VC33 ret38v.1 post) false (fun (ret46v : Bool) => K ((decide (ret38v.2 = (0 : Int))) && ret46v)) := h
      refine awl_runp 5 [1, 7, 8] [] (ob := (True ∧ True ∧ True ∧ True ∧ True ∧ True)) (st' := (⟨48, [(1, [], .v (.c (.p (.sl (.int .i64)) post))), (7, [], .v (.c (.p (.sl (.int .i64)) ret38v.1))), (8, [], .v (.c (.p (.int .i64) ret38v.2)))], []⟩ : St)) (by kernel_rfl) ⟨trivial, trivial, trivial, trivial, trivial, trivial⟩ ?_
      refine awl_nil ?_
      refine thenQ_n ?_
      refine aw_seq ?_
      refine aw_region ?_
      refine awl_runp 5 [43, 44, 45] [] (ob := (True ∧ True ∧ True ∧ ((decide (ret38v.2 = (0 : Int))) = true → True) ∧ ((decide (ret38v.2 = (0 : Int))) = true → True) ∧ True)) (st' := (⟨48, [(43, [], .v (.c (.p .bool (decide (ret38v.2 = (0 : Int)))))), (44, [(43, true)], .v (.c (.p (.sl (.int .i64)) ret38v.1))), (45, [(43, true)], .v (.c (.p (.sl (.int .i64)) post)))], []⟩ : St)) (by kernel_rfl) ⟨trivial, trivial, trivial, (fun _ => trivial), (fun _ => trivial), trivial⟩ ?_
      refine awl_callk (p := [(43, true)]) (l := [toV1 (.sl (.int .i64)) ret38v.1, toV1 (.sl (.int .i64)) post]) (cl := []) false [.d (.sl (.int .i64)), .d (.sl (.int .i64))] [43, 46] [] (fun (ret46v : Bool) => K ((decide (ret38v.2 = (0 : Int))) && ret46v)) (fun ret46v => [toV1 .bool ret46v]) (fun ret46v => (⟨48, [(43, [], .v (.c (.p .bool (decide (ret38v.2 = (0 : Int)))))), (46, [(43, true)], .v (.c (.p .bool ret46v)))], []⟩ : St)) (by kernel_rfl) rfl (by kernel_rfl) rfl (by kernel_rfl) Try.call33 (by kernel_rfl) (fun ret46v => by kernel_rfl) (fun e => by cases e) (fun hg => link33 ret38v.1 post _ (by have := gcall_T h (show (decide (ret38v.2 = (0 : Int))) = true from hg); exact this)) (fun hg => ⟨false, by have := gcall_F h (show (decide (ret38v.2 = (0 : Int))) = false from hg); exact this⟩) (fun ret46v h => ?_)
      have h : K ((decide (ret38v.2 = (0 : Int))) && ret46v) := h
      refine awl_runp 2 [4] [] (ob := (True ∧ True ∧ True)) (st' := (⟨48, [(4, [], .v (.c (.p .bool ((decide (ret38v.2 = (0 : Int))) && ret46v))))], []⟩ : St)) (by kernel_rfl) ⟨trivial, trivial, trivial⟩ ?_
      refine awl_nil ?_
      refine thenQ_n ?_
      refine aw_ret ?_
      exact retQ_r (σ := Bool) (R := (fun y => [toV1 .bool y])) (ob := (True ∧ True)) ((decide (ret38v.2 = (0 : Int))) && ret46v) (by kernel_rfl) ⟨trivial, trivial⟩ h

-- coppicer/coppicerkeep.ClimbShort
def VC11 (ops : (List (Int × Bool))) (l : (List Int)) (K : Bool → Prop) : Prop :=
  VC32 ops l (fun (ret14v : (List Int) × Int) => VC30 ops l true (fun (ret19v : Bool) => (((!ret19v) = true → K (!decide (ret14v.2 = (0 : Int)))) ∧ ((!ret19v) = false → (((!decide (ret14v.2 = (0 : Int))) = true → K (decide ((ret14v.1.length : Int) = (0 : Int)))) ∧ ((!decide (ret14v.2 = (0 : Int))) = false → VC29 ops ret14v.1 (fun (ret31v : (List Int) × Int) => VC32 ops ret31v.1 (fun (ret37v : (List Int) × Int) => gcall (α := Bool) (((decide (ret31v.2 = (0 : Int))) && (decide (ret37v.2 = (0 : Int)))) && (decide ((ret31v.1.length : Int) ≤ (l.length : Int)))) (VC33 ret14v.1 ret37v.1) false (fun (ret56v : Bool) => K ((((decide (ret31v.2 = (0 : Int))) && (decide (ret37v.2 = (0 : Int)))) && (decide ((ret31v.1.length : Int) ≤ (l.length : Int)))) && ret56v))))))))))

set_option maxHeartbeats 4000000 in
theorem link11 (ops : (List (Int × Bool))) (l : (List Int)) (K : Bool → Prop) (h : VC11 ops l K) : ACalls Try.prog 11 [toV1 (.sl (.pr (.int .i64) .bool)) ops, toV1 (.sl (.int .i64)) l] (fun res => ∃ y, res = (fun y => [toV1 .bool y]) y ∧ K y) := by
  refine acalls_of_aw [.bool] [.t 4] Try.func11 rfl rfl rfl ?_
  unfold VC11 at h
  refine aw_seq ?_
  refine aw_region ?_
  refine awl_runp 1 [0, 1] [] (ob := (True ∧ True)) (st' := (⟨58, [(0, [], .v (.c (.p (.sl (.pr (.int .i64) .bool)) ops))), (1, [], .v (.c (.p (.sl (.int .i64)) l)))], []⟩ : St)) (by kernel_rfl) ⟨trivial, trivial⟩ ?_
  refine awl_nil ?_
  refine thenQ_n ?_
  refine aw_seq ?_
  refine aw_region ?_
  refine awl_runp 2 [0, 1, 12, 13] [] (ob := (True ∧ True ∧ True)) (st' := (⟨58, [(0, [], .v (.c (.p (.sl (.pr (.int .i64) .bool)) ops))), (1, [], .v (.c (.p (.sl (.int .i64)) l))), (12, [], .v (.c (.p (.sl (.pr (.int .i64) .bool)) ops))), (13, [], .v (.c (.p (.sl (.int .i64)) l)))], []⟩ : St)) (by kernel_rfl) ⟨trivial, trivial, trivial⟩ ?_
  refine awl_callk (p := []) (l := [toV1 (.sl (.pr (.int .i64) .bool)) ops, toV1 (.sl (.int .i64)) l]) (cl := []) false [.d (.sl (.pr (.int .i64) .bool)), .d (.sl (.int .i64))] [0, 1, 14] [] (fun (ret14v : (List Int) × Int) => VC30 ops l true (fun (ret19v : Bool) => (((!ret19v) = true → K (!decide (ret14v.2 = (0 : Int)))) ∧ ((!ret19v) = false → (((!decide (ret14v.2 = (0 : Int))) = true → K (decide ((ret14v.1.length : Int) = (0 : Int)))) ∧ ((!decide (ret14v.2 = (0 : Int))) = false → VC29 ops ret14v.1 (fun (ret31v : (List Int) × Int) => VC32 ops ret31v.1 (fun (ret37v : (List Int) × Int) => gcall (α := Bool) (((decide (ret31v.2 = (0 : Int))) && (decide (ret37v.2 = (0 : Int)))) && (decide ((ret31v.1.length : Int) ≤ (l.length : Int)))) (VC33 ret14v.1 ret37v.1) false (fun (ret56v : Bool) => K ((((decide (ret31v.2 = (0 : Int))) && (decide (ret37v.2 = (0 : Int)))) && (decide ((ret31v.1.length : Int) ≤ (l.length : Int)))) && ret56v)))))))))) (fun ret14v => [toV1 (.sl (.int .i64)) ret14v.1, toV1 (.int .i64) ret14v.2]) (fun ret14v => (⟨58, [(0, [], .v (.c (.p (.sl (.pr (.int .i64) .bool)) ops))), (1, [], .v (.c (.p (.sl (.int .i64)) l))), (14, [], .tup [.c (.p (.sl (.int .i64)) ret14v.1), .c (.p (.int .i64) ret14v.2)])], []⟩ : St)) (by kernel_rfl) rfl (by kernel_rfl) rfl (by kernel_rfl) Try.call32 (by kernel_rfl) (fun ret14v => by kernel_rfl) (fun e => by cases e) (fun hg => link32 ops l _ h) (fun hg => noF hg) (fun ret14v h => ?_)
  have h : VC30 ops l true (fun (ret19v : Bool) => (((!ret19v) = true → K (!decide (ret14v.2 = (0 : Int)))) ∧ ((!ret19v) = false → (((!decide (ret14v.2 = (0 : Int))) = true → K (decide ((ret14v.1.length : Int) = (0 : Int)))) ∧ ((!decide (ret14v.2 = (0 : Int))) = false → VC29 ops ret14v.1 (fun (ret31v : (List Int) × Int) => VC32 ops ret31v.1 (fun (ret37v : (List Int) × Int) => gcall (α := Bool) (((decide (ret31v.2 = (0 : Int))) && (decide (ret37v.2 = (0 : Int)))) && (decide ((ret31v.1.length : Int) ≤ (l.length : Int)))) (VC33 ret14v.1 ret37v.1) false (fun (ret56v : Bool) => K ((((decide (ret31v.2 = (0 : Int))) && (decide (ret37v.2 = (0 : Int)))) && (decide ((ret31v.1.length : Int) ≤ (l.length : Int)))) && ret56v))))))))) := h
  refine awl_runp 5 [0, 1, 5, 6] [] (ob := (True ∧ True ∧ True ∧ True ∧ True ∧ True)) (st' := (⟨58, [(0, [], .v (.c (.p (.sl (.pr (.int .i64) .bool)) ops))), (1, [], .v (.c (.p (.sl (.int .i64)) l))), (5, [], .v (.c (.p (.sl (.int .i64)) ret14v.1))), (6, [], .v (.c (.p (.int .i64) ret14v.2)))], []⟩ : St)) (by kernel_rfl) ⟨trivial, trivial, trivial, trivial, trivial, trivial⟩ ?_
  refine awl_nil ?_
  refine thenQ_n ?_
  refine aw_seq ?_
  refine aw_seq ?_
  refine aw_region ?_
  refine awl_runp 2 [0, 1, 5, 6, 17, 18] [] (ob := (True ∧ True ∧ True)) (st' := (⟨58, [(0, [], .v (.c (.p (.sl (.pr (.int .i64) .bool)) ops))), (1, [], .v (.c (.p (.sl (.int .i64)) l))), (5, [], .v (.c (.p (.sl (.int .i64)) ret14v.1))), (6, [], .v (.c (.p (.int .i64) ret14v.2))), (17, [], .v (.c (.p (.sl (.pr (.int .i64) .bool)) ops))), (18, [], .v (.c (.p (.sl (.int .i64)) l)))], []⟩ : St)) (by kernel_rfl) ⟨trivial, trivial, trivial⟩ ?_
  refine awl_callk (p := []) (l := [toV1 (.sl (.pr (.int .i64) .bool)) ops, toV1 (.sl (.int .i64)) l, toV1 .bool true]) (cl := []) false [.d (.sl (.pr (.int .i64) .bool)), .d (.sl (.int .i64)), .d .bool] [0, 1, 5, 6, 19] [] (fun (ret19v : Bool) => (((!ret19v) = true → K (!decide (ret14v.2 = (0 : Int)))) ∧ ((!ret19v) = false → (((!decide (ret14v.2 = (0 : Int))) = true → K (decide ((ret14v.1.length : Int) = (0 : Int)))) ∧ ((!decide (ret14v.2 = (0 : Int))) = false → VC29 ops ret14v.1 (fun (ret31v : (List Int) × Int) => VC32 ops ret31v.1 (fun (ret37v : (List Int) × Int) => gcall (α := Bool) (((decide (ret31v.2 = (0 : Int))) && (decide (ret37v.2 = (0 : Int)))) && (decide ((ret31v.1.length : Int) ≤ (l.length : Int)))) (VC33 ret14v.1 ret37v.1) false (fun (ret56v : Bool) => K ((((decide (ret31v.2 = (0 : Int))) && (decide (ret37v.2 = (0 : Int)))) && (decide ((ret31v.1.length : Int) ≤ (l.length : Int)))) && ret56v))))))))) (fun ret19v => [toV1 .bool ret19v]) (fun ret19v => (⟨58, [(0, [], .v (.c (.p (.sl (.pr (.int .i64) .bool)) ops))), (1, [], .v (.c (.p (.sl (.int .i64)) l))), (5, [], .v (.c (.p (.sl (.int .i64)) ret14v.1))), (6, [], .v (.c (.p (.int .i64) ret14v.2))), (19, [], .v (.c (.p .bool ret19v)))], []⟩ : St)) (by kernel_rfl) rfl (by kernel_rfl) rfl (by kernel_rfl) Try.call30 (by kernel_rfl) (fun ret19v => by kernel_rfl) (fun e => by cases e) (fun hg => link30 ops l true _ h) (fun hg => noF hg) (fun ret19v h => ?_)
  have h : (((!ret19v) = true → K (!decide (ret14v.2 = (0 : Int)))) ∧ ((!ret19v) = false → (((!decide (ret14v.2 = (0 : Int))) = true → K (decide ((ret14v.1.length : Int) = (0 : Int)))) ∧ ((!decide (ret14v.2 = (0 : Int))) = false → VC29 ops ret14v.1 (fun (ret31v : (List Int) × Int) => VC32 ops ret31v.1 (fun (ret37v : (List Int) × Int) => gcall (α := Bool) (((decide (ret31v.2 = (0 : Int))) && (decide (ret37v.2 = (0 : Int)))) && (decide ((ret31v.1.length : Int) ≤ (l.length : Int)))) (VC33 ret14v.1 ret37v.1) false (fun (ret56v : Bool) => K ((((decide (ret31v.2 = (0 : Int))) && (decide (ret37v.2 = (0 : Int)))) && (decide ((ret31v.1.length : Int) ≤ (l.length : Int)))) && ret56v)))))))) := h
  refine awl_runp 1 [0, 1, 5, 6, 20] [] (ob := (True ∧ True)) (st' := (⟨58, [(0, [], .v (.c (.p (.sl (.pr (.int .i64) .bool)) ops))), (1, [], .v (.c (.p (.sl (.int .i64)) l))), (5, [], .v (.c (.p (.sl (.int .i64)) ret14v.1))), (6, [], .v (.c (.p (.int .i64) ret14v.2))), (20, [], .v (.c (.p .bool (!ret19v))))], []⟩ : St)) (by kernel_rfl) ⟨trivial, trivial⟩ ?_
  refine awl_nil ?_
  refine thenQ_n ?_
  refine aw_cond (b := (!ret19v)) (by kernel_rfl) (fun hb => ?_) (fun hb => ?_)
  · have h := h.1 hb
    refine aw_seq ?_
    refine aw_region ?_
    refine awl_runp 3 [4] [] (ob := (True ∧ True ∧ True ∧ True)) (st' := (⟨58, [(4, [], .v (.c (.p .bool (!decide (ret14v.2 = (0 : Int))))))], []⟩ : St)) (by kernel_rfl) ⟨trivial, trivial, trivial, trivial⟩ ?_
    refine awl_nil ?_
    refine thenQ_n ?_
    refine aw_ret ?_
    refine thenQ_r ?_
    exact retQ_r (σ := Bool) (R := (fun y => [toV1 .bool y])) (ob := (True ∧ True)) (!decide (ret14v.2 = (0 : Int))) (by kernel_rfl) ⟨trivial, trivial⟩ h
  · have h := h.2 hb
    refine aw_skip ?_
    refine thenQ_n ?_
    refine aw_seq ?_
    refine aw_seq ?_
    refine aw_region ?_
    refine awl_runp 2 [0, 1, 5, 24] [] (ob := (True ∧ True ∧ True)) (st' := (⟨58, [(0, [], .v (.c (.p (.sl (.pr (.int .i64) .bool)) ops))), (1, [], .v (.c (.p (.sl (.int .i64)) l))), (5, [], .v (.c (.p (.sl (.int .i64)) ret14v.1))), (24, [], .v (.c (.p .bool (!decide (ret14v.2 = (0 : Int))))))], []⟩ : St)) (by kernel_rfl) ⟨trivial, trivial, trivial⟩ ?_
    refine awl_nil ?_
    refine thenQ_n ?_
    refine aw_cond (b := (!decide (ret14v.2 = (0 : Int)))) (by kernel_rfl) (fun hb => ?_) (fun hb => ?_)
    · have h := h.1 hb
      refine aw_seq ?_
      refine aw_region ?_
      refine awl_runp 4 [4] [] (ob := (True ∧ True ∧ True ∧ True ∧ True)) (st' := (⟨58, [(4, [], .v (.c (.p .bool (decide ((ret14v.1.length : Int) = (0 : Int))))))], []⟩ : St)) (by kernel_rfl) ⟨trivial, trivial, trivial, trivial, trivial⟩ ?_
      refine awl_nil ?_
      refine thenQ_n ?_
      refine aw_ret ?_
      refine thenQ_r ?_
      exact retQ_r (σ := Bool) (R := (fun y => [toV1 .bool y])) (ob := (True ∧ True)) (decide ((ret14v.1.length : Int) = (0 : Int))) (by kernel_rfl) ⟨trivial, trivial⟩ h
    · have h := h.2 hb
      refine aw_skip ?_
      refine thenQ_n ?_
      refine aw_seq ?_
      refine aw_region ?_
      refine awl_runp 2 [0, 1, 5, 29, 30] [] (ob := (True ∧ True ∧ True)) (st' := (⟨58, [(0, [], .v (.c (.p (.sl (.pr (.int .i64) .bool)) ops))), (1, [], .v (.c (.p (.sl (.int .i64)) l))), (5, [], .v (.c (.p (.sl (.int .i64)) ret14v.1))), (29, [], .v (.c (.p (.sl (.pr (.int .i64) .bool)) ops))), (30, [], .v (.c (.p (.sl (.int .i64)) ret14v.1)))], []⟩ : St)) (by kernel_rfl) ⟨trivial, trivial, trivial⟩ ?_
      refine awl_callk (p := []) (l := [toV1 (.sl (.pr (.int .i64) .bool)) ops, toV1 (.sl (.int .i64)) ret14v.1]) (cl := []) false [.d (.sl (.pr (.int .i64) .bool)), .d (.sl (.int .i64))] [0, 1, 5, 31] [] (fun (ret31v : (List Int) × Int) => VC32 ops ret31v.1 (fun (ret37v : (List Int) × Int) => gcall (α := Bool) (((decide (ret31v.2 = (0 : Int))) && (decide (ret37v.2 = (0 : Int)))) && (decide ((ret31v.1.length : Int) ≤ (l.length : Int)))) (VC33 ret14v.1 ret37v.1) false (fun (ret56v : Bool) => K ((((decide (ret31v.2 = (0 : Int))) && (decide (ret37v.2 = (0 : Int)))) && (decide ((ret31v.1.length : Int) ≤ (l.length : Int)))) && ret56v)))) (fun ret31v => [toV1 (.sl (.int .i64)) ret31v.1, toV1 (.int .i64) ret31v.2]) (fun ret31v => (⟨58, [(0, [], .v (.c (.p (.sl (.pr (.int .i64) .bool)) ops))), (1, [], .v (.c (.p (.sl (.int .i64)) l))), (5, [], .v (.c (.p (.sl (.int .i64)) ret14v.1))), (31, [], .tup [.c (.p (.sl (.int .i64)) ret31v.1), .c (.p (.int .i64) ret31v.2)])], []⟩ : St)) (by kernel_rfl) rfl (by kernel_rfl) rfl (by kernel_rfl) Try.call29 (by kernel_rfl) (fun ret31v => by kernel_rfl) (fun e => by cases e) (fun hg => link29 ops ret14v.1 _ h) (fun hg => noF hg) (fun ret31v h => ?_)
      have h : VC32 ops ret31v.1 (fun (ret37v : (List Int) × Int) => gcall (α := Bool) (((decide (ret31v.2 = (0 : Int))) && (decide (ret37v.2 = (0 : Int)))) && (decide ((ret31v.1.length : Int) ≤ (l.length : Int)))) (VC33 ret14v.1 ret37v.1) false (fun (ret56v : Bool) => K ((((decide (ret31v.2 = (0 : Int))) && (decide (ret37v.2 = (0 : Int)))) && (decide ((ret31v.1.length : Int) ≤ (l.length : Int)))) && ret56v))) := h
      refine awl_runp 5 [0, 1, 5, 7, 8] [] (ob := (True ∧ True ∧ True ∧ True ∧ True ∧ True)) (st' := (⟨58, [(0, [], .v (.c (.p (.sl (.pr (.int .i64) .bool)) ops))), (1, [], .v (.c (.p (.sl (.int .i64)) l))), (5, [], .v (.c (.p (.sl (.int .i64)) ret14v.1))), (7, [], .v (.c (.p (.sl (.int .i64)) ret31v.1))), (8, [], .v (.c (.p (.int .i64) ret31v.2)))], []⟩ : St)) (by kernel_rfl) ⟨trivial, trivial, trivial, trivial, trivial, trivial⟩ ?_
      refine awl_nil ?_
      refine thenQ_n ?_
      refine aw_seq ?_
      refine aw_region ?_
      refine awl_runp 2 [1, 5, 7, 8, 35, 36] [] (ob := (True ∧ True ∧ True)) (st' := (⟨58, [(1, [], .v (.c (.p (.sl (.int .i64)) l))), (5, [], .v (.c (.p (.sl (.int .i64)) ret14v.1))), (7, [], .v (.c (.p (.sl (.int .i64)) ret31v.1))), (8, [], .v (.c (.p (.int .i64) ret31v.2))), (35, [], .v (.c (.p (.sl (.pr (.int .i64) .bool)) ops))), (36, [], .v (.c (.p (.sl (.int .i64)) ret31v.1)))], []⟩ : St)) (by kernel_rfl) ⟨trivial, trivial, trivial⟩ ?_
      refine awl_callk (p := []) (l := [toV1 (.sl (.pr (.int .i64) .bool)) ops, toV1 (.sl (.int .i64)) ret31v.1]) (cl := []) false [.d (.sl (.pr (.int .i64) .bool)), .d (.sl (.int .i64))] [1, 5, 7, 8, 37] [] (fun (ret37v : (List Int) × Int) => gcall (α := Bool) (((decide (ret31v.2 = (0 : Int))) && (decide (ret37v.2 = (0 : Int)))) && (decide ((ret31v.1.length : Int) ≤ (l.length : Int)))) (VC33 ret14v.1 ret37v.1) false (fun (ret56v : Bool) => K ((((decide (ret31v.2 = (0 : Int))) && (decide (ret37v.2 = (0 : Int)))) && (decide ((ret31v.1.length : Int) ≤ (l.length : Int)))) && ret56v))) (fun ret37v => [toV1 (.sl (.int .i64)) ret37v.1, toV1 (.int .i64) ret37v.2]) (fun ret37v => (⟨58, [(1, [], .v (.c (.p (.sl (.int .i64)) l))), (5, [], .v (.c (.p (.sl (.int .i64)) ret14v.1))), (7, [], .v (.c (.p (.sl (.int .i64)) ret31v.1))), (8, [], .v (.c (.p (.int .i64) ret31v.2))), (37, [], .tup [.c (.p (.sl (.int .i64)) ret37v.1), .c (.p (.int .i64) ret37v.2)])], []⟩ : St)) (by kernel_rfl) rfl (by kernel_rfl) rfl (by kernel_rfl) Try.call32 (by kernel_rfl) (fun ret37v => by kernel_rfl) (fun e => by cases e) (fun hg => link32 ops ret31v.1 _ h) (fun hg => noF hg) (fun ret37v h => ?_)
      have h : gcall (α := Bool) (((decide (ret31v.2 = (0 : Int))) && (decide (ret37v.2 = (0 : Int)))) && (decide ((ret31v.1.length : Int) ≤ (l.length : Int)))) (VC33 ret14v.1 ret37v.1) false (fun (ret56v : Bool) => K ((((decide (ret31v.2 = (0 : Int))) && (decide (ret37v.2 = (0 : Int)))) && (decide ((ret31v.1.length : Int) ≤ (l.length : Int)))) && ret56v)) := h
      refine awl_runp 5 [1, 5, 7, 8, 9, 10] [] (ob := (True ∧ True ∧ True ∧ True ∧ True ∧ True)) (st' := (⟨58, [(1, [], .v (.c (.p (.sl (.int .i64)) l))), (5, [], .v (.c (.p (.sl (.int .i64)) ret14v.1))), (7, [], .v (.c (.p (.sl (.int .i64)) ret31v.1))), (8, [], .v (.c (.p (.int .i64) ret31v.2))), (9, [], .v (.c (.p (.sl (.int .i64)) ret37v.1))), (10, [], .v (.c (.p (.int .i64) ret37v.2)))], []⟩ : St)) (by kernel_rfl) ⟨trivial, trivial, trivial, trivial, trivial, trivial⟩ ?_
      refine awl_nil ?_
      refine thenQ_n ?_
      refine aw_seq ?_
      refine aw_region ?_
      refine awl_runp 16 [53, 54, 55] [] (ob := (True ∧ True ∧ True ∧ ((decide (ret31v.2 = (0 : Int))) = true → True) ∧ ((decide (ret31v.2 = (0 : Int))) = true → True) ∧ True ∧ True ∧ (((decide (ret31v.2 = (0 : Int))) && (decide (ret37v.2 = (0 : Int)))) = true → True) ∧ (((decide (ret31v.2 = (0 : Int))) && (decide (ret37v.2 = (0 : Int)))) = true → True) ∧ (((decide (ret31v.2 = (0 : Int))) && (decide (ret37v.2 = (0 : Int)))) = true → True) ∧ (((decide (ret31v.2 = (0 : Int))) && (decide (ret37v.2 = (0 : Int)))) = true → True) ∧ (((decide (ret31v.2 = (0 : Int))) && (decide (ret37v.2 = (0 : Int)))) = true → True) ∧ True ∧ True ∧ ((((decide (ret31v.2 = (0 : Int))) && (decide (ret37v.2 = (0 : Int)))) && (decide ((ret31v.1.length : Int) ≤ (l.length : Int)))) = true → True) ∧ ((((decide (ret31v.2 = (0 : Int))) && (decide (ret37v.2 = (0 : Int)))) && (decide ((ret31v.1.length : Int) ≤ (l.length : Int)))) = true → True) ∧ True)) (st' := (⟨58, [(53, [], .v (.c (.p .bool (((decide (ret31v.2 = (0 : Int))) && (decide (ret37v.2 = (0 : Int)))) && (decide ((ret31v.1.length : Int) ≤ (l.length : Int))))))), (54, [(53, true)], .v (.c (.p (.sl (.int .i64)) ret14v.1))), (55, [(53, true)], .v (.c (.p (.sl (.int .i64)) ret37v.1)))], []⟩ : St)) (by kernel_rfl) ⟨trivial, trivial, trivial, (fun _ => trivial), (fun _ => trivial), trivial, trivial, (fun _ => trivial), (fun _ => trivial), (fun _ => trivial), (fun _ => trivial), (fun _ => trivial), trivial, trivial, (fun _ => trivial), (fun _ => trivial), trivial⟩ ?_
      refine awl_callk (p := [(53, true)]) (l := [toV1 (.sl (.int .i64)) ret14v.1, toV1 (.sl (.int .i64)) ret37v.1]) (cl := []) false [.d (.sl (.int .i64)), .d (.sl (.int .i64))] [53, 56] [] (fun (ret56v : Bool) => K ((((decide (ret31v.2 = (0 : Int))) && (decide (ret37v.2 = (0 : Int)))) && (decide ((ret31v.1.length : Int) ≤ (l.length : Int)))) && ret56v)) (fun ret56v => [toV1 .bool ret56v]) (fun ret56v => (⟨58, [(53, [], .v (.c (.p .bool (((decide (ret31v.2 = (0 : Int))) && (decide (ret37v.2 = (0 : Int)))) && (decide ((ret31v.1.length : Int) ≤ (l.length : Int))))))), (56, [(53, true)], .v (.c (.p .bool ret56v)))], []⟩ : St)) (by kernel_rfl) rfl (by kernel_rfl) rfl (by kernel_rfl) Try.call33 (by kernel_rfl) (fun ret56v => by kernel_rfl) (fun e => by cases e) (fun hg => link33 ret14v.1 ret37v.1 _ (by have := gcall_T h (show (((decide (ret31v.2 = (0 : Int))) && (decide (ret37v.2 = (0 : Int)))) && (decide ((ret31v.1.length : Int) ≤ (l.length : Int)))) = true from hg); exact this)) (fun hg => ⟨false, by have := gcall_F h (show (((decide (ret31v.2 = (0 : Int))) && (decide (ret37v.2 = (0 : Int)))) && (decide ((ret31v.1.length : Int) ≤ (l.length : Int)))) = false from hg); exact this⟩) (fun ret56v h => ?_)
      have h : K ((((decide (ret31v.2 = (0 : Int))) && (decide (ret37v.2 = (0 : Int)))) && (decide ((ret31v.1.length : Int) ≤ (l.length : Int)))) && ret56v) := h
      refine awl_runp 2 [4] [] (ob := (True ∧ True ∧ True)) (st' := (⟨58, [(4, [], .v (.c (.p .bool ((((decide (ret31v.2 = (0 : Int))) && (decide (ret37v.2 = (0 : Int)))) && (decide ((ret31v.1.length : Int) ≤ (l.length : Int)))) && ret56v))))], []⟩ : St)) (by kernel_rfl) ⟨trivial, trivial, trivial⟩ ?_
      refine awl_nil ?_
      refine thenQ_n ?_
      refine aw_ret ?_
      exact retQ_r (σ := Bool) (R := (fun y => [toV1 .bool y])) (ob := (True ∧ True)) ((((decide (ret31v.2 = (0 : Int))) && (decide (ret37v.2 = (0 : Int)))) && (decide ((ret31v.1.length : Int) ≤ (l.length : Int)))) && ret56v) (by kernel_rfl) ⟨trivial, trivial⟩ h

end Dec
