/-
  Printed by dec2.py: of each function its plain demand, and that the demand gives the contract.
-/
import Derived.Test.YtfchgkifdfgbmaaGenCb
set_option linter.unusedVariables false
set_option linter.unusedSimpArgs false
set_option maxRecDepth 100000
namespace Dec
open Go Go.RowKit Go.Proofs
abbrev e7_0 (c0 : Int) (c1 : Int) (c2 : Int) (c3 : LR) (c4 : LI) : Nat × Path × Con := hB 70200 [.pI c0, .pI c1, .pI c2, .p (.sl tR) c3, .pS c4, .own 70201]
abbrev e7_1 (b : LI) : Nat × Path × AV := sI 1 (b.getD ((0 : Int)).toNat (0 : Int))
abbrev e7_2 (c5 : (List (LI × Int))) : Nat × Path × Con := (70201, [], .dict (.ar 2 tI) tI c5)
abbrev e7_3 (c3 : LR) : Nat × Path × AV := s1 56 (.p (.sl tR) c3)
abbrev e7_4 (l702012 : (List (LI × Int))) : Nat × Path × Con := (70201, [], .dict (.ar 2 tI) tI l702012)
abbrev e7_5 (ret46v : Int × (List (LI × Int))) : Nat × Path × Con := (70201, [], .dict (.ar 2 tI) tI ret46v.2)
abbrev e7_6 (l70201 : (List (LI × Int))) : Nat × Path × Con := (70201, [], .dict (.ar 2 tI) tI l70201)
abbrev e7_7 : Nat × Path × AV := sp 156 70200
abbrev e7_8 : Nat × Path × AV := sp 0 70200
abbrev e7_9 (c3 : LR) : Nat × Path × AV := sI 57 (c3.length : Int)
abbrev e7_10 (ret46v : Int × (List (LI × Int))) : Nat × Path × AV := sI 104 ret46v.1
abbrev e7_11 (ret78v : Int × (List (LI × Int))) : Nat × Path × Con := (70201, [], .dict (.ar 2 tI) tI ret78v.2)
abbrev e7_12 (c3 : LR) (v58 : Int) : Nat × Path × Con := hB 12 [.pI ((c3.getD (v58).toNat ((0 : Int), ([] : LI))).1), .pS ((c3.getD (v58).toNat ((0 : Int), ([] : LI))).2)]
abbrev e7_13 (b : LI) : Nat × Path × AV := s1 94 (.pS b)
abbrev e7_14 : Nat × Path × AV := sp 63 70200
abbrev e7_15 : Nat × Path × AV := sp 93 70200
abbrev e7_16 (b : LI) : Nat × Path × AV := s1 1 (.pS b)
abbrev e7_17 (ret46v : Int × (List (LI × Int))) (b : LI) (signs : Int) (m : Int) : Nat × Path × AV := sI 9 ((mget ret46v.2 [(b.getD ((0 : Int)).toNat (0 : Int)), signs, m]).getD (0 : Int))
abbrev e7_18 (c5 : (List (LI × Int))) (b : LI) (signs : Int) (i : Int) : Nat × Path × AV := sI 9 ((mget c5 [(b.getD ((0 : Int)).toNat (0 : Int)), signs, i]).getD (0 : Int))
abbrev e7_19 (c3 : LR) (v58 : Int) : Nat × Path × AV := s1 75 (.pS ((c3.getD (v58).toNat ((0 : Int), ([] : LI))).2))
abbrev e7_20 : Nat × Path × AV := sI 8 (0 : Int)
abbrev e7_21 : Nat × Path × AV := sI 9 (1099511627777 : Int)
-- (*coppicer/coppicerref.Bush).Row
def VCc43_k1 (K : Int × (List (LI × Int)) → Prop) (v8 : Int) (l70201 : (List (LI × Int))) : Prop :=
  K (v8, l70201)
def VCc43_k3 (b : LI) (signs : Int) (i : Int) (K : Int × (List (LI × Int)) → Prop) (l70201 : (List (LI × Int))) (n2 : Int) : Prop :=
  VCc43_k1 K n2 (mset l70201 [(b.getD ((0 : Int)).toNat (0 : Int)), signs, i] n2)
def VCc43_k2 (b : LI) (signs : Int) (i : Int) (K : Int × (List (LI × Int)) → Prop) (n : Int) (l70201 : (List (LI × Int))) : Prop :=
  (((decide ((1099511627776 : Int) < n)) = true → VCc43_k3 b signs i K l70201 (1099511627777 : Int)) ∧ ((decide ((1099511627776 : Int) < n)) = false → VCc43_k3 b signs i K l70201 n))
def VCc43_k4 (v58 : Int) (X1 : Int × Int × (List (LI × Int)) → Prop) (n2 : Int) (l702012 : (List (LI × Int))) : Prop :=
  (InR (v58 + (1 : Int)) ∧ X1 (n2, (v58 + (1 : Int)), l702012))
def VCc43_l1 (c0 : Int) (c3 : LR) (R : LI → Int → Int → (List (LI × Int)) → (Int × (List (LI × Int)) → Prop) → Prop) (b : LI) (signs : Int) (i : Int) (K : Int × (List (LI × Int)) → Prop) (n : Int) (v58 : Int) (l70201 : (List (LI × Int))) (X1 : Int × Int × (List (LI × Int)) → Prop) : Prop :=
  (((decide (v58 < (c3.length : Int))) = true → (inIdx v58 c3.length ∧ (InR ((b.getD ((0 : Int)).toNat (0 : Int)) - c0) ∧ (((decide ((c3.getD (v58).toNat ((0 : Int), ([] : LI))).1 = ((b.getD ((0 : Int)).toNat (0 : Int)) - c0))) = true → R ((c3.getD (v58).toNat ((0 : Int), ([] : LI))).2) signs i l70201 (fun (ret78v : Int × (List (LI × Int))) => (InR (n + ret78v.1) ∧ VCc43_k4 v58 X1 (n + ret78v.1) ret78v.2))) ∧ ((decide ((c3.getD (v58).toNat ((0 : Int), ([] : LI))).1 = ((b.getD ((0 : Int)).toNat (0 : Int)) - c0))) = false → VCc43_k4 v58 X1 n l70201))))) ∧ ((decide (v58 < (c3.length : Int))) = false → VCc43_k2 b signs i K n l70201))
def VCc43_k5 (K : Int × (List (LI × Int)) → Prop) (sumv : Int) (l70201 : (List (LI × Int))) : Prop :=
  K (sumv, l70201)
def VCc43_k7 (m : Int) (X2 : Int × Int × (List (LI × Int)) → Prop) (l702012 : (List (LI × Int))) (sumv3 : Int) : Prop :=
  (InR (m + (1 : Int)) ∧ X2 (sumv3, (m + (1 : Int)), l702012))
def VCc43_k6 (m : Int) (X2 : Int × Int × (List (LI × Int)) → Prop) (sumv2 : Int) (l702012 : (List (LI × Int))) : Prop :=
  (((decide ((1099511627776 : Int) < sumv2)) = true → VCc43_k7 m X2 l702012 (1099511627777 : Int)) ∧ ((decide ((1099511627776 : Int) < sumv2)) = false → VCc43_k7 m X2 l702012 sumv2))
def VCc43_k8 (sumv : Int) (m : Int) (X2 : Int × Int × (List (LI × Int)) → Prop) (ret46v : Int × (List (LI × Int))) (v8 : Int) (l702012 : (List (LI × Int))) : Prop :=
  VC65 v8 ret46v.1 (fun (ret58v : Int) => (InR (sumv + ret58v) ∧ VCc43_k6 m X2 (sumv + ret58v) l702012))
def VCc43_k10 (b : LI) (signs : Int) (sumv : Int) (m : Int) (X2 : Int × Int × (List (LI × Int)) → Prop) (ret46v : Int × (List (LI × Int))) (l702012 : (List (LI × Int))) (n2 : Int) : Prop :=
  VCc43_k8 sumv m X2 ret46v n2 (mset l702012 [(b.getD ((0 : Int)).toNat (0 : Int)), signs, m] n2)
def VCc43_k9 (b : LI) (signs : Int) (sumv : Int) (m : Int) (X2 : Int × Int × (List (LI × Int)) → Prop) (ret46v : Int × (List (LI × Int))) (n : Int) (l702012 : (List (LI × Int))) : Prop :=
  (((decide ((1099511627776 : Int) < n)) = true → VCc43_k10 b signs sumv m X2 ret46v l702012 (1099511627777 : Int)) ∧ ((decide ((1099511627776 : Int) < n)) = false → VCc43_k10 b signs sumv m X2 ret46v l702012 n))
def VCc43_k11 (v58 : Int) (X3 : Int × Int × (List (LI × Int)) → Prop) (n2 : Int) (l702013 : (List (LI × Int))) : Prop :=
  (InR (v58 + (1 : Int)) ∧ X3 (n2, (v58 + (1 : Int)), l702013))
def VCc43_l3 (c0 : Int) (c3 : LR) (R : LI → Int → Int → (List (LI × Int)) → (Int × (List (LI × Int)) → Prop) → Prop) (b : LI) (signs : Int) (sumv : Int) (m : Int) (X2 : Int × Int × (List (LI × Int)) → Prop) (ret46v : Int × (List (LI × Int))) (n : Int) (v58 : Int) (l702012 : (List (LI × Int))) (X3 : Int × Int × (List (LI × Int)) → Prop) : Prop :=
  (((decide (v58 < (c3.length : Int))) = true → (inIdx v58 c3.length ∧ (InR ((b.getD ((0 : Int)).toNat (0 : Int)) - c0) ∧ (((decide ((c3.getD (v58).toNat ((0 : Int), ([] : LI))).1 = ((b.getD ((0 : Int)).toNat (0 : Int)) - c0))) = true → R ((c3.getD (v58).toNat ((0 : Int), ([] : LI))).2) signs m l702012 (fun (ret78v : Int × (List (LI × Int))) => (InR (n + ret78v.1) ∧ VCc43_k11 v58 X3 (n + ret78v.1) ret78v.2))) ∧ ((decide ((c3.getD (v58).toNat ((0 : Int), ([] : LI))).1 = ((b.getD ((0 : Int)).toNat (0 : Int)) - c0))) = false → VCc43_k11 v58 X3 n l702012))))) ∧ ((decide (v58 < (c3.length : Int))) = false → VCc43_k9 b signs sumv m X2 ret46v n l702012))
def VCc43_l2 (c0 : Int) (c3 : LR) (c4 : LI) (R : LI → Int → Int → (List (LI × Int)) → (Int × (List (LI × Int)) → Prop) → Prop) (b : LI) (signs : Int) (i : Int) (K : Int × (List (LI × Int)) → Prop) (sumv : Int) (m : Int) (l70201 : (List (LI × Int))) (X2 : Int × Int × (List (LI × Int)) → Prop) : Prop :=
  (((decide (m < i)) = true → ((0 ≤ (1 : Int) ∧ (1 : Int) ≤ (b.length : Int)) ∧ R (b.drop ((1 : Int)).toNat) m i l70201 (fun (ret46v : Int × (List (LI × Int))) => (((decide ((0 : Int) < ret46v.1)) = true → (inIdx (0 : Int) b.length ∧ (((decide ((b.getD ((0 : Int)).toNat (0 : Int)) < c0)) = true → (InR (signs + (1 : Int)) ∧ ((decide (m = (signs + (1 : Int)))) = true → inIdx signs c4.length) ∧ ((((decide (m = (signs + (1 : Int)))) && (decide ((c4.getD (signs).toNat (0 : Int)) = (b.getD ((0 : Int)).toNat (0 : Int))))) = true → VCc43_k8 sumv m X2 ret46v (1 : Int) ret46v.2) ∧ (((decide (m = (signs + (1 : Int)))) && (decide ((c4.getD (signs).toNat (0 : Int)) = (b.getD ((0 : Int)).toNat (0 : Int))))) = false → VCc43_k8 sumv m X2 ret46v (0 : Int) ret46v.2)))) ∧ ((decide ((b.getD ((0 : Int)).toNat (0 : Int)) < c0)) = false → (((decide (signs = m)) = true → VCc43_k8 sumv m X2 ret46v (0 : Int) ret46v.2) ∧ ((decide (signs = m)) = false → (((mget ret46v.2 [(b.getD ((0 : Int)).toNat (0 : Int)), signs, m]).isSome = true → VCc43_k8 sumv m X2 ret46v ((mget ret46v.2 [(b.getD ((0 : Int)).toNat (0 : Int)), signs, m]).getD (0 : Int)) ret46v.2) ∧ ((mget ret46v.2 [(b.getD ((0 : Int)).toNat (0 : Int)), signs, m]).isSome = false → Loop (σ := Int × Int × (List (LI × Int))) (fun s X => VCc43_l3 c0 c3 R b signs sumv m X2 ret46v s.1 s.2.1 s.2.2 X) (((mget ret46v.2 [(b.getD ((0 : Int)).toNat (0 : Int)), signs, m]).getD (0 : Int)), (0 : Int), ret46v.2))))))))) ∧ ((decide ((0 : Int) < ret46v.1)) = false → VCc43_k6 m X2 sumv ret46v.2))))) ∧ ((decide (m < i)) = false → VCc43_k5 K sumv l70201))
def VCc43 (c0 : Int) (c1 : Int) (c2 : Int) (c3 : LR) (c4 : LI) (R : LI → Int → Int → (List (LI × Int)) → (Int × (List (LI × Int)) → Prop) → Prop) (b : LI) (signs : Int) (i : Int) (c5 : (List (LI × Int))) (K : Int × (List (LI × Int)) → Prop) : Prop :=
  (InR (i - signs) ∧ (((decide ((i - signs) < (b.length : Int))) = true → K ((0 : Int), c5)) ∧ ((decide ((i - signs) < (b.length : Int))) = false → (((decide ((b.length : Int) = (0 : Int))) = true → (((decide (signs = i)) = true → K ((1 : Int), c5)) ∧ ((decide (signs = i)) = false → K ((0 : Int), c5)))) ∧ ((decide ((b.length : Int) = (0 : Int))) = false → (((decide ((b.length : Int) = (1 : Int))) = true → (inIdx (0 : Int) b.length ∧ (((decide ((b.getD ((0 : Int)).toNat (0 : Int)) < c0)) = true → (InR (signs + (1 : Int)) ∧ ((decide (i = (signs + (1 : Int)))) = true → inIdx signs c4.length) ∧ ((((decide (i = (signs + (1 : Int)))) && (decide ((c4.getD (signs).toNat (0 : Int)) = (b.getD ((0 : Int)).toNat (0 : Int))))) = true → VCc43_k1 K (1 : Int) c5) ∧ (((decide (i = (signs + (1 : Int)))) && (decide ((c4.getD (signs).toNat (0 : Int)) = (b.getD ((0 : Int)).toNat (0 : Int))))) = false → VCc43_k1 K (0 : Int) c5)))) ∧ ((decide ((b.getD ((0 : Int)).toNat (0 : Int)) < c0)) = false → (((decide (signs = i)) = true → VCc43_k1 K (0 : Int) c5) ∧ ((decide (signs = i)) = false → (((mget c5 [(b.getD ((0 : Int)).toNat (0 : Int)), signs, i]).isSome = true → VCc43_k1 K ((mget c5 [(b.getD ((0 : Int)).toNat (0 : Int)), signs, i]).getD (0 : Int)) c5) ∧ ((mget c5 [(b.getD ((0 : Int)).toNat (0 : Int)), signs, i]).isSome = false → Loop (σ := Int × Int × (List (LI × Int))) (fun s X => VCc43_l1 c0 c3 R b signs i K s.1 s.2.1 s.2.2 X) (((mget c5 [(b.getD ((0 : Int)).toNat (0 : Int)), signs, i]).getD (0 : Int)), (0 : Int), c5))))))))) ∧ ((decide ((b.length : Int) = (1 : Int))) = false → (InR (signs + (1 : Int)) ∧ Loop (σ := Int × Int × (List (LI × Int))) (fun s X => VCc43_l2 c0 c3 c4 R b signs i K s.1 s.2.1 s.2.2 X) ((0 : Int), (signs + (1 : Int)), c5)))))))))
set_option maxHeartbeats 4000000 in
theorem linkc43 (c0 : Int) (c1 : Int) (c2 : Int) (c3 : LR) (c4 : LI) (R : LI → Int → Int → (List (LI × Int)) → (Int × (List (LI × Int)) → Prop) → Prop) (hR : ∀ (b : LI) (signs : Int) (i : Int) (c5 : (List (LI × Int))) (K : Int × (List (LI × Int)) → Prop), R b signs i c5 K → LCalls Try.prog 43 [70200, 70201] [70200] [e7_0 c0 c1 c2 c3 c4, e7_2 c5] [.c (.ptr 70200 0), .c (.pS b), .c (.pI signs), .c (.pI i)] (fun av hp' => ∃ y : Int × (List (LI × Int)), av = .v (.c (.pI y.1)) ∧ hp' = [e7_0 c0 c1 c2 c3 c4, (70201, [], .dict (.ar 2 tI) tI y.2)] ∧ K y)) (b : LI) (signs : Int) (i : Int) (c5 : (List (LI × Int))) (K : Int × (List (LI × Int)) → Prop) (h : VCc43 c0 c1 c2 c3 c4 R b signs i c5 K) : LCalls Try.prog 43 [70200, 70201] [70200] [e7_0 c0 c1 c2 c3 c4, e7_2 c5] [.c (.ptr 70200 0), .c (.pS b), .c (.pI signs), .c (.pI i)] (fun av hp' => ∃ y : Int × (List (LI × Int)), av = .v (.c (.pI y.1)) ∧ hp' = [e7_0 c0 c1 c2 c3 c4, (70201, [], .dict (.ar 2 tI) tI y.2)] ∧ K y) := by
 refine lcalls_of_aw [70200, 70201] [70200] [.t 8] Try.func43 rfl rfl (by kernel_rfl) (by kernel_rfl) (by kernel_rfl) ?_
 refine aw_conv [] (st' := (⟨63, [e7_8, e7_16 b, sI 2 signs, sI 3 i, e7_14], [e7_0 c0 c1 c2 c3 c4, e7_2 c5]⟩ : St)) (by kernel_rfl) ?_
 unfold VCc43 at h
 refine srn 1 ⟨63, [e7_8, e7_16 b, sI 2 signs, sI 3 i, e7_14], [e7_0 c0 c1 c2 c3 c4, e7_2 c5]⟩ (by kernel_rfl) rfl ?_
 refine aw_seq ?_
 refine sr ?_
 obtain ⟨o1, h⟩ := h
 refine rq 6 (ob := (Ts 4 (InR (i - signs) ∧ Ts 1 True))) (st' := (⟨63, [e7_8, e7_16 b, sI 2 signs, sI 3 i, sB 17 (decide ((i - signs) < (b.length : Int))), e7_14], [e7_0 c0 c1 c2 c3 c4, e7_2 c5]⟩ : St)) (by kernel_rfl) (tsI 4 ⟨o1, tsI 1 trivial⟩) ?_
 refine nn ?_
 refine aw_cond (b := (decide ((i - signs) < (b.length : Int)))) (by kernel_rfl) (fun hb => ?_) (fun hb => ?_)
 ·have h := h.1 hb
  refine srn 1 ⟨63, [e7_20, e7_14], [e7_0 c0 c1 c2 c3 c4, e7_2 c5]⟩ (by kernel_rfl) rfl ?_
  refine aw_ret ?_
  refine thenQ_r ?_
  exact lret_r (σ := Int × (List (LI × Int))) (A := fun y => .v (.c (.pI y.1))) (H := fun y => [e7_0 c0 c1 c2 c3 c4, (70201, [], .dict (.ar 2 tI) tI y.2)]) (ob := True) ((0 : Int), c5) (by kernel_rfl) trivial rfl (by kernel_rfl) (by kernel_rfl) (by kernel_rfl) h
 ·have h := h.2 hb
  refine aw_skip ?_
  refine thenQ_n ?_
  refine aw_seq ?_
  refine srn 3 ⟨63, [e7_8, e7_16 b, sI 2 signs, sI 3 i, sB 20 (decide ((b.length : Int) = (0 : Int))), e7_14], [e7_0 c0 c1 c2 c3 c4, e7_2 c5]⟩ (by kernel_rfl) rfl ?_
  refine aw_cond (b := (decide ((b.length : Int) = (0 : Int)))) (by kernel_rfl) (fun hb => ?_) (fun hb => ?_)
  ·have h := h.1 hb
   refine aw_seq ?_
   refine srn 3 ⟨63, [sB 23 (decide (signs = i)), e7_14], [e7_0 c0 c1 c2 c3 c4, e7_2 c5]⟩ (by kernel_rfl) rfl ?_
   refine aw_cond (b := (decide (signs = i))) (by kernel_rfl) (fun hb => ?_) (fun hb => ?_)
   ·have h := h.1 hb
    refine srn 1 ⟨63, [sI 8 (1 : Int), e7_14], [e7_0 c0 c1 c2 c3 c4, e7_2 c5]⟩ (by kernel_rfl) rfl ?_
    refine aw_ret ?_
    refine thenQ_r ?_
    refine thenQ_r ?_
    exact lret_r (σ := Int × (List (LI × Int))) (A := fun y => .v (.c (.pI y.1))) (H := fun y => [e7_0 c0 c1 c2 c3 c4, (70201, [], .dict (.ar 2 tI) tI y.2)]) (ob := True) ((1 : Int), c5) (by kernel_rfl) trivial rfl (by kernel_rfl) (by kernel_rfl) (by kernel_rfl) h
   ·have h := h.2 hb
    refine aw_skip ?_
    refine thenQ_n ?_
    refine srn 1 ⟨63, [e7_20, e7_14], [e7_0 c0 c1 c2 c3 c4, e7_2 c5]⟩ (by kernel_rfl) rfl ?_
    refine aw_ret ?_
    refine thenQ_r ?_
    exact lret_r (σ := Int × (List (LI × Int))) (A := fun y => .v (.c (.pI y.1))) (H := fun y => [e7_0 c0 c1 c2 c3 c4, (70201, [], .dict (.ar 2 tI) tI y.2)]) (ob := True) ((0 : Int), c5) (by kernel_rfl) trivial rfl (by kernel_rfl) (by kernel_rfl) (by kernel_rfl) h
  ·have h := h.2 hb
   refine aw_skip ?_
   refine thenQ_n ?_
   refine aw_seq ?_
   refine srn 3 ⟨63, [e7_8, e7_16 b, sI 2 signs, sI 3 i, sB 26 (decide ((b.length : Int) = (1 : Int))), e7_14], [e7_0 c0 c1 c2 c3 c4, e7_2 c5]⟩ (by kernel_rfl) rfl ?_
   refine aw_cond (b := (decide ((b.length : Int) = (1 : Int)))) (by kernel_rfl) (fun hb => ?_) (fun hb => ?_)
   ·have h := h.1 hb
    refine sr ?_
    obtain ⟨o1, h⟩ := h
    refine rq 6 (ob := (Ts 2 (inIdx (0 : Int) b.length ∧ Ts 3 True))) (st' := (⟨63, [sp 27 70200, sI 30 (b.getD ((0 : Int)).toNat (0 : Int)), sI 31 signs, sI 32 i, e7_14], [e7_0 c0 c1 c2 c3 c4, e7_2 c5]⟩ : St)) (by kernel_rfl) (tsI 2 ⟨o1, tsI 3 trivial⟩) ?_
    refine awl_inlr [.t 8] [70200, 70201] [.c (.ptr 70200 0), .c (.pI (b.getD ((0 : Int)).toNat (0 : Int))), .c (.pI signs), .c (.pI i)] [] rfl rfl (by kernel_rfl) rfl (by kernel_rfl) Try.call21 (by kernel_rfl) (by kernel_rfl) Try.func21 rfl rfl (by kernel_rfl) ?_
    refine aw_conv [] (st' := (⟨93, [e7_8, e7_1 b, sI 2 signs, sI 3 i, sp 120 70200, sI 123 (b.getD ((0 : Int)).toNat (0 : Int)), sI 124 signs, sI 125 i, e7_7], [e7_0 c0 c1 c2 c3 c4, e7_2 c5]⟩ : St)) (by kernel_rfl) ?_
    refine withJoinR (σ := Int × (List (LI × Int))) (fun s => (⟨93, [sI 8 s.1, e7_7], [e7_0 c0 c1 c2 c3 c4, (70201, [], .dict (.ar 2 tI) tI s.2)]⟩ : St)) (fun s => VCc43_k1 K s.1 s.2) (fun s h => ?_) (fun rest1 => ?_)
    ·obtain ⟨v8, l70201⟩ := s
     have h : VCc43_k1 K v8 l70201 := h
     unfold VCc43_k1 at h
     refine inlR_n (ob := True) (.v (.c (.pI v8))) (by kernel_rfl) trivial rfl ?_
     refine lpr (st' := (⟨63, [sI 33 v8, e7_14], [e7_0 c0 c1 c2 c3 c4, e7_6 l70201]⟩ : St)) (by kernel_rfl) ?_
     refine rqT 1 ⟨63, [sI 8 v8, e7_14], [e7_0 c0 c1 c2 c3 c4, e7_6 l70201]⟩ (by kernel_rfl) ?_
     refine nn ?_
     refine aw_ret ?_
     refine thenQ_r ?_
     exact lret_r (σ := Int × (List (LI × Int))) (A := fun y => .v (.c (.pI y.1))) (H := fun y => [e7_0 c0 c1 c2 c3 c4, (70201, [], .dict (.ar 2 tI) tI y.2)]) (ob := True) (v8, l70201) (by kernel_rfl) trivial rfl (by kernel_rfl) (by kernel_rfl) (by kernel_rfl) h
    ·refine srn 1 ⟨93, [e7_8, e7_1 b, sI 2 signs, sI 3 i, e7_7], [e7_0 c0 c1 c2 c3 c4, e7_2 c5]⟩ (by kernel_rfl) rfl ?_
     refine aw_seq ?_
     refine srn 7 ⟨93, [e7_8, e7_1 b, sI 2 signs, sI 3 i, sB 19 (decide ((b.getD ((0 : Int)).toNat (0 : Int)) < c0)), e7_7], [e7_0 c0 c1 c2 c3 c4, e7_2 c5]⟩ (by kernel_rfl) rfl ?_
     refine aw_cond (b := (decide ((b.getD ((0 : Int)).toNat (0 : Int)) < c0))) (by kernel_rfl) (fun hb => ?_) (fun hb => ?_)
     ·have h := h.1 hb
      refine aw_seq ?_
      refine sr ?_
      obtain ⟨o1, o2, h⟩ := h
      refine rq 15 (ob := (Ts 2 (InR (signs + (1 : Int)) ∧ Ts 2 (Ti 5 ((decide (i = (signs + (1 : Int)))) = true → True) (((decide (i = (signs + (1 : Int)))) = true → inIdx signs c4.length) ∧ Ti 3 ((decide (i = (signs + (1 : Int)))) = true → True) (Ts 1 True)))))) (st' := (⟨93, [sB 34 ((decide (i = (signs + (1 : Int)))) && (decide ((c4.getD (signs).toNat (0 : Int)) = (b.getD ((0 : Int)).toNat (0 : Int))))), e7_7], [e7_0 c0 c1 c2 c3 c4, e7_2 c5]⟩ : St)) (by kernel_rfl) (tsI 2 (⟨o1, tsI 2 (tiI 5 (fun _ => trivial) ⟨o2, tiI 3 (fun _ => trivial) (tsI 1 trivial)⟩)⟩)) ?_
      refine nn ?_
      refine aw_cond (b := ((decide (i = (signs + (1 : Int)))) && (decide ((c4.getD (signs).toNat (0 : Int)) = (b.getD ((0 : Int)).toNat (0 : Int)))))) (by kernel_rfl) (fun hb => ?_) (fun hb => ?_)
      ·have h := h.1 hb
       refine srn 1 ⟨93, [sI 8 (1 : Int), e7_7], [e7_0 c0 c1 c2 c3 c4, e7_2 c5]⟩ (by kernel_rfl) rfl ?_
       refine aw_ret ?_
       refine thenQ_r ?_
       refine thenQ_r ?_
       exact rest1 ((1 : Int), c5) h
      ·have h := h.2 hb
       refine aw_skip ?_
       refine thenQ_n ?_
       refine srn 1 ⟨93, [e7_20, e7_7], [e7_0 c0 c1 c2 c3 c4, e7_2 c5]⟩ (by kernel_rfl) rfl ?_
       refine aw_ret ?_
       refine thenQ_r ?_
       exact rest1 ((0 : Int), c5) h
     ·have h := h.2 hb
      refine aw_skip ?_
      refine thenQ_n ?_
      refine aw_seq ?_
      refine srn 3 ⟨93, [e7_8, e7_1 b, sI 2 signs, sI 3 i, sB 37 (decide (signs = i)), e7_7], [e7_0 c0 c1 c2 c3 c4, e7_2 c5]⟩ (by kernel_rfl) rfl ?_
      refine aw_cond (b := (decide (signs = i))) (by kernel_rfl) (fun hb => ?_) (fun hb => ?_)
      ·have h := h.1 hb
       refine srn 1 ⟨93, [e7_20, e7_7], [e7_0 c0 c1 c2 c3 c4, e7_2 c5]⟩ (by kernel_rfl) rfl ?_
       refine aw_ret ?_
       refine thenQ_r ?_
       exact rest1 ((0 : Int), c5) h
      ·have h := h.2 hb
       refine aw_skip ?_
       refine thenQ_n ?_
       refine srn 14 ⟨93, [e7_8, e7_1 b, sI 2 signs, sI 3 i, e7_18 c5 b signs i, sB 10 ((mget c5 [(b.getD ((0 : Int)).toNat (0 : Int)), signs, i]).isSome), e7_7], [e7_0 c0 c1 c2 c3 c4, e7_2 c5]⟩ (by kernel_rfl) rfl ?_
       refine aw_seq ?_
       refine srn 1 ⟨93, [e7_8, e7_1 b, sI 2 signs, sI 3 i, e7_18 c5 b signs i, sB 50 ((mget c5 [(b.getD ((0 : Int)).toNat (0 : Int)), signs, i]).isSome), e7_7], [e7_0 c0 c1 c2 c3 c4, e7_2 c5]⟩ (by kernel_rfl) rfl ?_
       refine aw_cond (b := (mget c5 [(b.getD ((0 : Int)).toNat (0 : Int)), signs, i]).isSome) (by kernel_rfl) (fun hb => ?_) (fun hb => ?_)
       ·have h := h.1 hb
        refine srn 2 ⟨93, [sI 8 ((mget c5 [(b.getD ((0 : Int)).toNat (0 : Int)), signs, i]).getD (0 : Int)), e7_7], [e7_0 c0 c1 c2 c3 c4, e7_2 c5]⟩ (by kernel_rfl) rfl ?_
        refine aw_ret ?_
        refine thenQ_r ?_
        exact rest1 (((mget c5 [(b.getD ((0 : Int)).toNat (0 : Int)), signs, i]).getD (0 : Int)), c5) h
       ·have h := h.2 hb
        refine aw_skip ?_
        refine thenQ_n ?_
        refine aw_seq ?_
        refine srn 7 ⟨93, [e7_8, e7_1 b, sI 2 signs, sI 3 i, e7_18 c5 b signs i, e7_3 c3, e7_9 c3, sI 58 (0 : Int), e7_7], [e7_0 c0 c1 c2 c3 c4, e7_2 c5]⟩ (by kernel_rfl) rfl ?_
        refine withJoin (σ := Int × (List (LI × Int))) (fun s => (⟨93, [e7_8, e7_1 b, sI 2 signs, sI 3 i, sI 9 s.1, e7_7], [e7_0 c0 c1 c2 c3 c4, (70201, [], .dict (.ar 2 tI) tI s.2)]⟩ : St)) (fun s => VCc43_k2 b signs i K s.1 s.2) (fun s h => ?_) (fun rest3 => ?_)
        ·obtain ⟨n, l70201⟩ := s
         have h : VCc43_k2 b signs i K n l70201 := h
         unfold VCc43_k2 at h
         refine thenQ_n ?_
         refine aw_seq ?_
         refine srn 2 ⟨93, [e7_8, e7_1 b, sI 2 signs, sI 3 i, sI 9 n, sB 82 (decide ((1099511627776 : Int) < n)), e7_7], [e7_0 c0 c1 c2 c3 c4, e7_6 l70201]⟩ (by kernel_rfl) rfl ?_
         refine withJoin (σ := Int) (fun s => (⟨93, [e7_8, e7_1 b, sI 2 signs, sI 3 i, sI 9 s, e7_7], [e7_0 c0 c1 c2 c3 c4, e7_6 l70201]⟩ : St)) (fun s => VCc43_k3 b signs i K l70201 s) (fun n2 h => ?_) (fun rest2 => ?_)
         ·have h : VCc43_k3 b signs i K l70201 n2 := h
          unfold VCc43_k3 at h
          refine thenQ_n ?_
          refine sr ?_
          refine rqT 10 ⟨93, [sI 9 n2, e7_7], [e7_0 c0 c1 c2 c3 c4, (70201, [], .dict (.ar 2 tI) tI (mset l70201 [(b.getD ((0 : Int)).toNat (0 : Int)), signs, i] n2))]⟩ (by kernel_rfl) ?_
          refine nsr ?_
          refine rqT 2 ⟨93, [sI 8 n2, e7_7], [e7_0 c0 c1 c2 c3 c4, (70201, [], .dict (.ar 2 tI) tI (mset l70201 [(b.getD ((0 : Int)).toNat (0 : Int)), signs, i] n2))]⟩ (by kernel_rfl) ?_
          refine nn ?_
          refine aw_ret ?_
          exact rest1 (n2, (mset l70201 [(b.getD ((0 : Int)).toNat (0 : Int)), signs, i] n2)) h
         ·refine aw_cond (b := (decide ((1099511627776 : Int) < n))) (by kernel_rfl) (fun hb => ?_) (fun hb => ?_)
          ·have h := h.1 hb
           refine aw_region ?_
           refine rqT 1 ⟨93, [e7_8, e7_1 b, sI 2 signs, sI 3 i, e7_21, e7_7], [e7_0 c0 c1 c2 c3 c4, e7_6 l70201]⟩ (by kernel_rfl) ?_
           refine awl_nil ?_
           exact rest2 (1099511627777 : Int) h
          ·have h := h.2 hb
           refine cpr (st' := (⟨93, [e7_8, e7_1 b, sI 2 signs, sI 3 i, sI 9 n, e7_7], [e7_0 c0 c1 c2 c3 c4, e7_6 l70201]⟩ : St)) (by kernel_rfl) ?_
           refine aw_skip ?_
           exact rest2 n h
        ·refine aw_block ?_
         refine aw_loop (σ := Int × Int × (List (LI × Int))) (fun s => (⟨93, [e7_8, e7_1 b, sI 2 signs, sI 3 i, sI 9 s.1, e7_3 c3, e7_9 c3, sI 58 s.2.1, e7_7], [e7_0 c0 c1 c2 c3 c4, (70201, [], .dict (.ar 2 tI) tI s.2.2)]⟩ : St)) (fun s X => VCc43_l1 c0 c3 R b signs i K s.1 s.2.1 s.2.2 X) (s0 := (((mget c5 [(b.getD ((0 : Int)).toNat (0 : Int)), signs, i]).getD (0 : Int)), (0 : Int), c5)) (fun s X1 h => ?_) h
         obtain ⟨n, v58, l70201⟩ := s
         have h : VCc43_l1 c0 c3 R b signs i K n v58 l70201 X1 := h
         unfold VCc43_l1 at h
         refine srn 1 ⟨93, [e7_8, e7_1 b, sI 2 signs, sI 3 i, sI 9 n, e7_3 c3, e7_9 c3, sI 58 v58, sB 59 (decide (v58 < (c3.length : Int))), e7_7], [e7_0 c0 c1 c2 c3 c4, e7_6 l70201]⟩ (by kernel_rfl) rfl ?_
         refine aw_seq ?_
         refine aw_cond (b := (decide (v58 < (c3.length : Int)))) (by kernel_rfl) (fun hb => ?_) (fun hb => ?_)
         ·have h := h.1 hb
          refine aw_skip ?_
          refine thenQ_n ?_
          refine aw_seq ?_
          refine aw_block ?_
          refine sr ?_
          obtain ⟨o1, h⟩ := h
          refine rq 4 (ob := (inIdx v58 c3.length ∧ Ts 3 True)) (st' := (⟨93, [e7_8, e7_1 b, sI 2 signs, sI 3 i, sI 9 n, sp 12 12, e7_3 c3, e7_9 c3, sI 58 v58, e7_7], [e7_12 c3 v58, e7_0 c0 c1 c2 c3 c4, e7_6 l70201]⟩ : St)) (by kernel_rfl) (⟨o1, tsI 3 trivial⟩) ?_
          refine nn ?_
          refine aw_seq ?_
          refine awd_begin [] (by kernel_rfl) ?_
          obtain ⟨o1, h⟩ := h
          refine drq (by kernel_rfl) [0, 1, 2, 3, 4, 5, 6, 7, 8, 9] (ob := (Ts 8 (InR ((b.getD ((0 : Int)).toNat (0 : Int)) - c0) ∧ Ts 1 True))) (done' := [9, 8, 7, 6, 5, 4, 3, 2, 1, 0]) (st' := (⟨93, [e7_8, e7_1 b, sI 2 signs, sI 3 i, sI 9 n, sp 12 12, e7_3 c3, e7_9 c3, sI 58 v58, sB 71 (decide ((c3.getD (v58).toNat ((0 : Int), ([] : LI))).1 = ((b.getD ((0 : Int)).toNat (0 : Int)) - c0))), e7_7], [e7_12 c3 v58, e7_0 c0 c1 c2 c3 c4, e7_6 l70201]⟩ : St)) (by kernel_rfl) (tsI 8 ⟨o1, tsI 1 trivial⟩) ?_
          refine awd_done (by kernel_rfl) ?_
          refine thenQ_n ?_
          refine withJoin (σ := Int × (List (LI × Int))) (fun s => (⟨93, [e7_8, e7_1 b, sI 2 signs, sI 3 i, sI 9 s.1, e7_3 c3, e7_9 c3, sI 58 v58, e7_7], [e7_0 c0 c1 c2 c3 c4, (70201, [], .dict (.ar 2 tI) tI s.2)]⟩ : St)) (fun s => VCc43_k4 v58 X1 s.1 s.2) (fun s h => ?_) (fun rest4 => ?_)
          ·obtain ⟨n2, l702012⟩ := s
           have h : VCc43_k4 v58 X1 n2 l702012 := h
           unfold VCc43_k4 at h
           refine blockQ_n ?_
           refine thenQ_n ?_
           refine aw_region ?_
           obtain ⟨o1, h⟩ := h
           refine rq 2 (ob := (InR (v58 + (1 : Int)) ∧ Ts 1 True)) (st' := (⟨93, [e7_8, e7_1 b, sI 2 signs, sI 3 i, sI 9 n2, e7_3 c3, e7_9 c3, sI 58 (v58 + (1 : Int)), e7_7], [e7_0 c0 c1 c2 c3 c4, e7_4 l702012]⟩ : St)) (by kernel_rfl) (⟨o1, tsI 1 trivial⟩) ?_
           refine awl_nil ?_
           exact thenQ_n ⟨(n2, (v58 + (1 : Int)), l702012), rfl, h⟩
          ·refine aw_cond (b := (decide ((c3.getD (v58).toNat ((0 : Int), ([] : LI))).1 = ((b.getD ((0 : Int)).toNat (0 : Int)) - c0)))) (by kernel_rfl) (fun hb => ?_) (fun hb => ?_)
           ·have h := h.1 hb
            refine aw_region ?_
            refine rqT 6 ⟨93, [e7_8, e7_1 b, sI 2 signs, sI 3 i, e7_3 c3, e7_9 c3, sI 58 v58, sI 72 n, sp 73 70200, e7_19 c3 v58, sI 76 signs, sI 77 i, e7_7], [e7_0 c0 c1 c2 c3 c4, e7_6 l70201]⟩ (by kernel_rfl) ?_
            refine awl_lcall (σ := Int × (List (LI × Int))) [70200, 70201] [70200] [.c (.ptr 70200 0), .c (.pS ((c3.getD (v58).toNat ((0 : Int), ([] : LI))).2)), .c (.pI signs), .c (.pI i)] [] (fun ret78v => .v (.c (.pI ret78v.1))) (fun ret78v => [e7_0 c0 c1 c2 c3 c4, e7_11 ret78v]) (_) [e7_0 c0 c1 c2 c3 c4, e7_6 l70201] (fun ret78v => (⟨93, [sI 78 ret78v.1, e7_8, e7_1 b, sI 2 signs, sI 3 i, e7_3 c3, e7_9 c3, sI 58 v58, sI 72 n, sp 73 70200, e7_19 c3 v58, sI 76 signs, sI 77 i, e7_7], [e7_0 c0 c1 c2 c3 c4, e7_11 ret78v]⟩ : St)) rfl rfl (by kernel_rfl) rfl (by kernel_rfl) Try.call43 (by kernel_rfl) (by kernel_rfl) (by kernel_rfl) (fun _ _ => rfl) (fun _ => by kernel_rfl) (hR ((c3.getD (v58).toNat ((0 : Int), ([] : LI))).2) signs i l70201 _ h) (fun ret78v h => ?_)
            refine lpr (st' := (⟨93, [e7_8, e7_1 b, sI 2 signs, sI 3 i, e7_3 c3, e7_9 c3, sI 58 v58, sI 72 n, sI 78 ret78v.1, e7_7], [e7_0 c0 c1 c2 c3 c4, e7_11 ret78v]⟩ : St)) (by kernel_rfl) ?_
            obtain ⟨o1, h⟩ := h
            refine rq 2 (ob := (InR (n + ret78v.1) ∧ Ts 1 True)) (st' := (⟨93, [e7_8, e7_1 b, sI 2 signs, sI 3 i, sI 9 (n + ret78v.1), e7_3 c3, e7_9 c3, sI 58 v58, e7_7], [e7_0 c0 c1 c2 c3 c4, e7_11 ret78v]⟩ : St)) (by kernel_rfl) (⟨o1, tsI 1 trivial⟩) ?_
            refine awl_nil ?_
            exact rest4 ((n + ret78v.1), ret78v.2) h
           ·have h := h.2 hb
            refine cpr (st' := (⟨93, [e7_8, e7_1 b, sI 2 signs, sI 3 i, sI 9 n, e7_3 c3, e7_9 c3, sI 58 v58, e7_7], [e7_0 c0 c1 c2 c3 c4, e7_6 l70201]⟩ : St)) (by kernel_rfl) ?_
            refine aw_skip ?_
            exact rest4 (n, l70201) h
         ·have h := h.2 hb
          refine cpr (st' := (⟨93, [e7_8, e7_1 b, sI 2 signs, sI 3 i, sI 9 n, e7_7], [e7_0 c0 c1 c2 c3 c4, e7_6 l70201]⟩ : St)) (by kernel_rfl) ?_
          refine aw_exit ?_
          refine thenQ_x ?_
          refine thenQ_x ?_
          refine blockQ_hit ?_
          exact rest3 (n, l70201) h
   ·have h := h.2 hb
    refine aw_skip ?_
    refine thenQ_n ?_
    refine srn 1 ⟨63, [e7_8, e7_16 b, sI 2 signs, sI 3 i, sI 9 (0 : Int), e7_14], [e7_0 c0 c1 c2 c3 c4, e7_2 c5]⟩ (by kernel_rfl) rfl ?_
    refine aw_seq ?_
    refine sr ?_
    obtain ⟨o1, h⟩ := h
    refine rq 3 (ob := (Ts 1 (InR (signs + (1 : Int)) ∧ Ts 1 True))) (st' := (⟨63, [e7_8, e7_16 b, sI 2 signs, sI 3 i, sI 9 (0 : Int), sI 10 (signs + (1 : Int)), e7_14], [e7_0 c0 c1 c2 c3 c4, e7_2 c5]⟩ : St)) (by kernel_rfl) (tsI 1 ⟨o1, tsI 1 trivial⟩) ?_
    refine nn ?_
    refine withJoin (σ := Int × (List (LI × Int))) (fun s => (⟨63, [sI 9 s.1, e7_14], [e7_0 c0 c1 c2 c3 c4, (70201, [], .dict (.ar 2 tI) tI s.2)]⟩ : St)) (fun s => VCc43_k5 K s.1 s.2) (fun s h => ?_) (fun rest5 => ?_)
    ·obtain ⟨sumv, l70201⟩ := s
     have h : VCc43_k5 K sumv l70201 := h
     unfold VCc43_k5 at h
     refine thenQ_n ?_
     refine srn 2 ⟨63, [sI 8 sumv, e7_14], [e7_0 c0 c1 c2 c3 c4, e7_6 l70201]⟩ (by kernel_rfl) rfl ?_
     refine aw_ret ?_
     exact lret_r (σ := Int × (List (LI × Int))) (A := fun y => .v (.c (.pI y.1))) (H := fun y => [e7_0 c0 c1 c2 c3 c4, (70201, [], .dict (.ar 2 tI) tI y.2)]) (ob := True) (sumv, l70201) (by kernel_rfl) trivial rfl (by kernel_rfl) (by kernel_rfl) (by kernel_rfl) h
    ·refine aw_block ?_
     refine aw_loop (σ := Int × Int × (List (LI × Int))) (fun s => (⟨63, [e7_8, e7_16 b, sI 2 signs, sI 3 i, sI 9 s.1, sI 10 s.2.1, e7_14], [e7_0 c0 c1 c2 c3 c4, (70201, [], .dict (.ar 2 tI) tI s.2.2)]⟩ : St)) (fun s X => VCc43_l2 c0 c3 c4 R b signs i K s.1 s.2.1 s.2.2 X) (s0 := ((0 : Int), (signs + (1 : Int)), c5)) (fun s X2 h => ?_) h
     obtain ⟨sumv, m, l70201⟩ := s
     have h : VCc43_l2 c0 c3 c4 R b signs i K sumv m l70201 X2 := h
     unfold VCc43_l2 at h
     refine aw_seq ?_
     refine srn 3 ⟨63, [e7_8, e7_16 b, sI 2 signs, sI 3 i, sI 9 sumv, sI 10 m, sB 38 (decide (m < i)), e7_14], [e7_0 c0 c1 c2 c3 c4, e7_6 l70201]⟩ (by kernel_rfl) rfl ?_
     refine aw_cond (b := (decide (m < i))) (by kernel_rfl) (fun hb => ?_) (fun hb => ?_)
     ·have h := h.1 hb
      refine aw_skip ?_
      refine thenQ_n ?_
      refine aw_seq ?_
      refine aw_block ?_
      refine sr ?_
      obtain ⟨o1, h⟩ := h
      refine rq 5 (ob := (Ts 2 ((0 ≤ (1 : Int) ∧ (1 : Int) ≤ (b.length : Int)) ∧ Ts 2 True))) (st' := (⟨63, [e7_8, e7_16 b, sI 2 signs, sI 3 i, sI 9 sumv, sI 10 m, sp 41 70200, s1 43 (.pS (b.drop ((1 : Int)).toNat)), sI 44 m, sI 45 i, e7_14], [e7_0 c0 c1 c2 c3 c4, e7_6 l70201]⟩ : St)) (by kernel_rfl) (tsI 2 ⟨o1, tsI 2 trivial⟩) ?_
      refine awl_lcall (σ := Int × (List (LI × Int))) [70200, 70201] [70200] [.c (.ptr 70200 0), .c (.pS (b.drop ((1 : Int)).toNat)), .c (.pI m), .c (.pI i)] [] (fun ret46v => .v (.c (.pI ret46v.1))) (fun ret46v => [e7_0 c0 c1 c2 c3 c4, e7_5 ret46v]) (_) [e7_0 c0 c1 c2 c3 c4, e7_6 l70201] (fun ret46v => (⟨63, [sI 46 ret46v.1, e7_8, e7_16 b, sI 2 signs, sI 3 i, sI 9 sumv, sI 10 m, sp 41 70200, s1 43 (.pS (b.drop ((1 : Int)).toNat)), sI 44 m, sI 45 i, e7_14], [e7_0 c0 c1 c2 c3 c4, e7_5 ret46v]⟩ : St)) rfl rfl (by kernel_rfl) rfl (by kernel_rfl) Try.call43 (by kernel_rfl) (by kernel_rfl) (by kernel_rfl) (fun _ _ => rfl) (fun _ => by kernel_rfl) (hR (b.drop ((1 : Int)).toNat) m i l70201 _ h) (fun ret46v h => ?_)
      refine lpr (st' := (⟨63, [e7_8, e7_16 b, sI 2 signs, sI 3 i, sI 9 sumv, sI 10 m, sI 46 ret46v.1, e7_14], [e7_0 c0 c1 c2 c3 c4, e7_5 ret46v]⟩ : St)) (by kernel_rfl) ?_
      refine rqT 1 ⟨63, [e7_8, e7_16 b, sI 2 signs, sI 3 i, sI 9 sumv, sI 10 m, sI 11 ret46v.1, e7_14], [e7_0 c0 c1 c2 c3 c4, e7_5 ret46v]⟩ (by kernel_rfl) ?_
      refine nn ?_
      refine aw_seq ?_
      refine srn 2 ⟨63, [e7_8, e7_16 b, sI 2 signs, sI 3 i, sI 9 sumv, sI 10 m, sI 11 ret46v.1, sB 48 (decide ((0 : Int) < ret46v.1)), e7_14], [e7_0 c0 c1 c2 c3 c4, e7_5 ret46v]⟩ (by kernel_rfl) rfl ?_
      refine withJoin (σ := Int × (List (LI × Int))) (fun s => (⟨63, [e7_8, e7_16 b, sI 2 signs, sI 3 i, sI 9 s.1, sI 10 m, e7_14], [e7_0 c0 c1 c2 c3 c4, (70201, [], .dict (.ar 2 tI) tI s.2)]⟩ : St)) (fun s => VCc43_k6 m X2 s.1 s.2) (fun s h => ?_) (fun rest7 => ?_)
      ·obtain ⟨sumv2, l702012⟩ := s
       have h : VCc43_k6 m X2 sumv2 l702012 := h
       unfold VCc43_k6 at h
       refine thenQ_n ?_
       refine srn 2 ⟨63, [e7_8, e7_16 b, sI 2 signs, sI 3 i, sI 9 sumv2, sI 10 m, sB 61 (decide ((1099511627776 : Int) < sumv2)), e7_14], [e7_0 c0 c1 c2 c3 c4, e7_4 l702012]⟩ (by kernel_rfl) rfl ?_
       refine withJoin (σ := Int) (fun s => (⟨63, [e7_8, e7_16 b, sI 2 signs, sI 3 i, sI 9 s, sI 10 m, e7_14], [e7_0 c0 c1 c2 c3 c4, e7_4 l702012]⟩ : St)) (fun s => VCc43_k7 m X2 l702012 s) (fun sumv3 h => ?_) (fun rest6 => ?_)
       ·have h : VCc43_k7 m X2 l702012 sumv3 := h
        unfold VCc43_k7 at h
        refine blockQ_n ?_
        refine thenQ_n ?_
        refine aw_region ?_
        obtain ⟨o1, h⟩ := h
        refine rq 3 (ob := (Ts 1 (InR (m + (1 : Int)) ∧ Ts 1 True))) (st' := (⟨63, [e7_8, e7_16 b, sI 2 signs, sI 3 i, sI 9 sumv3, sI 10 (m + (1 : Int)), e7_14], [e7_0 c0 c1 c2 c3 c4, e7_4 l702012]⟩ : St)) (by kernel_rfl) (tsI 1 ⟨o1, tsI 1 trivial⟩) ?_
        refine awl_nil ?_
        exact thenQ_n ⟨(sumv3, (m + (1 : Int)), l702012), rfl, h⟩
       ·refine aw_cond (b := (decide ((1099511627776 : Int) < sumv2))) (by kernel_rfl) (fun hb => ?_) (fun hb => ?_)
        ·have h := h.1 hb
         refine aw_region ?_
         refine rqT 1 ⟨63, [e7_8, e7_16 b, sI 2 signs, sI 3 i, e7_21, sI 10 m, e7_14], [e7_0 c0 c1 c2 c3 c4, e7_4 l702012]⟩ (by kernel_rfl) ?_
         refine awl_nil ?_
         exact rest6 (1099511627777 : Int) h
        ·have h := h.2 hb
         refine cpr (st' := (⟨63, [e7_8, e7_16 b, sI 2 signs, sI 3 i, sI 9 sumv2, sI 10 m, e7_14], [e7_0 c0 c1 c2 c3 c4, e7_4 l702012]⟩ : St)) (by kernel_rfl) ?_
         refine aw_skip ?_
         exact rest6 sumv2 h
      ·refine aw_cond (b := (decide ((0 : Int) < ret46v.1))) (by kernel_rfl) (fun hb => ?_) (fun hb => ?_)
       ·have h := h.1 hb
        refine aw_region ?_
        obtain ⟨o1, h⟩ := h
        refine rq 7 (ob := (Ts 3 (inIdx (0 : Int) b.length ∧ Ts 3 True))) (st' := (⟨63, [e7_8, e7_16 b, sI 2 signs, sI 3 i, sI 10 m, sI 11 ret46v.1, sI 49 sumv, sp 50 70200, sI 53 (b.getD ((0 : Int)).toNat (0 : Int)), sI 54 signs, sI 55 m, e7_14], [e7_0 c0 c1 c2 c3 c4, e7_5 ret46v]⟩ : St)) (by kernel_rfl) (tsI 3 ⟨o1, tsI 3 trivial⟩) ?_
        refine awl_inlr [.t 8] [70200, 70201] [.c (.ptr 70200 0), .c (.pI (b.getD ((0 : Int)).toNat (0 : Int))), .c (.pI signs), .c (.pI m)] [] rfl rfl (by kernel_rfl) rfl (by kernel_rfl) Try.call21 (by kernel_rfl) (by kernel_rfl) Try.func21 rfl rfl (by kernel_rfl) ?_
        refine aw_conv [] (st' := (⟨93, [e7_8, e7_1 b, sI 2 signs, sI 3 m, e7_15, e7_13 b, sI 95 signs, sI 96 i, sI 103 m, e7_10 ret46v, sI 142 sumv, sp 143 70200, sI 146 (b.getD ((0 : Int)).toNat (0 : Int)), sI 147 signs, sI 148 m, e7_7], [e7_0 c0 c1 c2 c3 c4, e7_5 ret46v]⟩ : St)) (by kernel_rfl) ?_
        refine withJoinR (σ := Int × (List (LI × Int))) (fun s => (⟨93, [sI 8 s.1, e7_15, e7_13 b, sI 95 signs, sI 96 i, sI 103 m, e7_10 ret46v, sI 142 sumv, e7_7], [e7_0 c0 c1 c2 c3 c4, (70201, [], .dict (.ar 2 tI) tI s.2)]⟩ : St)) (fun s => VCc43_k8 sumv m X2 ret46v s.1 s.2) (fun s h => ?_) (fun rest8 => ?_)
        ·obtain ⟨v8, l702012⟩ := s
         have h : VCc43_k8 sumv m X2 ret46v v8 l702012 := h
         unfold VCc43_k8 at h
         refine inlR_n (ob := True) (.v (.c (.pI v8))) (by kernel_rfl) trivial rfl ?_
         refine lpr (st' := (⟨63, [e7_8, e7_16 b, sI 2 signs, sI 3 i, sI 10 m, sI 11 ret46v.1, sI 49 sumv, sI 56 v8, e7_14], [e7_0 c0 c1 c2 c3 c4, e7_4 l702012]⟩ : St)) (by kernel_rfl) ?_
         refine rqT 1 ⟨63, [e7_8, e7_16 b, sI 2 signs, sI 3 i, sI 10 m, sI 49 sumv, sI 56 v8, sI 57 ret46v.1, e7_14], [e7_0 c0 c1 c2 c3 c4, e7_4 l702012]⟩ (by kernel_rfl) ?_
         refine lcq (d := 58) [.d tI, .d tI] (fun ret58v => (⟨63, [e7_8, e7_16 b, sI 2 signs, sI 3 i, sI 10 m, sI 49 sumv, sI 58 ret58v, e7_14], [e7_0 c0 c1 c2 c3 c4, e7_4 l702012]⟩ : St)) (by kernel_rfl) Try.call65 (fun _ => by kernel_rfl) (link65 v8 ret46v.1 _ h) (fun ret58v h => ?_)
         obtain ⟨o1, h⟩ := h
         refine rq 2 (ob := (InR (sumv + ret58v) ∧ Ts 1 True)) (st' := (⟨63, [e7_8, e7_16 b, sI 2 signs, sI 3 i, sI 9 (sumv + ret58v), sI 10 m, e7_14], [e7_0 c0 c1 c2 c3 c4, e7_4 l702012]⟩ : St)) (by kernel_rfl) (⟨o1, tsI 1 trivial⟩) ?_
         refine awl_nil ?_
         exact rest7 ((sumv + ret58v), l702012) h
        ·refine srn 1 ⟨93, [e7_8, e7_1 b, sI 2 signs, sI 3 m, e7_15, e7_13 b, sI 95 signs, sI 96 i, sI 103 m, e7_10 ret46v, sI 142 sumv, e7_7], [e7_0 c0 c1 c2 c3 c4, e7_5 ret46v]⟩ (by kernel_rfl) rfl ?_
         refine aw_seq ?_
         refine srn 7 ⟨93, [e7_8, e7_1 b, sI 2 signs, sI 3 m, sB 19 (decide ((b.getD ((0 : Int)).toNat (0 : Int)) < c0)), e7_15, e7_13 b, sI 95 signs, sI 96 i, sI 103 m, e7_10 ret46v, sI 142 sumv, e7_7], [e7_0 c0 c1 c2 c3 c4, e7_5 ret46v]⟩ (by kernel_rfl) rfl ?_
         refine aw_cond (b := (decide ((b.getD ((0 : Int)).toNat (0 : Int)) < c0))) (by kernel_rfl) (fun hb => ?_) (fun hb => ?_)
         ·have h := h.1 hb
          refine aw_seq ?_
          refine sr ?_
          obtain ⟨o1, o2, h⟩ := h
          refine rq 15 (ob := (Ts 2 (InR (signs + (1 : Int)) ∧ Ts 2 (Ti 5 ((decide (m = (signs + (1 : Int)))) = true → True) (((decide (m = (signs + (1 : Int)))) = true → inIdx signs c4.length) ∧ Ti 3 ((decide (m = (signs + (1 : Int)))) = true → True) (Ts 1 True)))))) (st' := (⟨93, [sB 34 ((decide (m = (signs + (1 : Int)))) && (decide ((c4.getD (signs).toNat (0 : Int)) = (b.getD ((0 : Int)).toNat (0 : Int))))), e7_15, e7_13 b, sI 95 signs, sI 96 i, sI 103 m, e7_10 ret46v, sI 142 sumv, e7_7], [e7_0 c0 c1 c2 c3 c4, e7_5 ret46v]⟩ : St)) (by kernel_rfl) (tsI 2 (⟨o1, tsI 2 (tiI 5 (fun _ => trivial) ⟨o2, tiI 3 (fun _ => trivial) (tsI 1 trivial)⟩)⟩)) ?_
          refine nn ?_
          refine aw_cond (b := ((decide (m = (signs + (1 : Int)))) && (decide ((c4.getD (signs).toNat (0 : Int)) = (b.getD ((0 : Int)).toNat (0 : Int)))))) (by kernel_rfl) (fun hb => ?_) (fun hb => ?_)
          ·have h := h.1 hb
           refine srn 1 ⟨93, [sI 8 (1 : Int), e7_15, e7_13 b, sI 95 signs, sI 96 i, sI 103 m, e7_10 ret46v, sI 142 sumv, e7_7], [e7_0 c0 c1 c2 c3 c4, e7_5 ret46v]⟩ (by kernel_rfl) rfl ?_
           refine aw_ret ?_
           refine thenQ_r ?_
           refine thenQ_r ?_
           exact rest8 ((1 : Int), ret46v.2) h
          ·have h := h.2 hb
           refine aw_skip ?_
           refine thenQ_n ?_
           refine srn 1 ⟨93, [e7_20, e7_15, e7_13 b, sI 95 signs, sI 96 i, sI 103 m, e7_10 ret46v, sI 142 sumv, e7_7], [e7_0 c0 c1 c2 c3 c4, e7_5 ret46v]⟩ (by kernel_rfl) rfl ?_
           refine aw_ret ?_
           refine thenQ_r ?_
           exact rest8 ((0 : Int), ret46v.2) h
         ·have h := h.2 hb
          refine aw_skip ?_
          refine thenQ_n ?_
          refine aw_seq ?_
          refine srn 3 ⟨93, [e7_8, e7_1 b, sI 2 signs, sI 3 m, sB 37 (decide (signs = m)), e7_15, e7_13 b, sI 95 signs, sI 96 i, sI 103 m, e7_10 ret46v, sI 142 sumv, e7_7], [e7_0 c0 c1 c2 c3 c4, e7_5 ret46v]⟩ (by kernel_rfl) rfl ?_
          refine aw_cond (b := (decide (signs = m))) (by kernel_rfl) (fun hb => ?_) (fun hb => ?_)
          ·have h := h.1 hb
           refine srn 1 ⟨93, [e7_20, e7_15, e7_13 b, sI 95 signs, sI 96 i, sI 103 m, e7_10 ret46v, sI 142 sumv, e7_7], [e7_0 c0 c1 c2 c3 c4, e7_5 ret46v]⟩ (by kernel_rfl) rfl ?_
           refine aw_ret ?_
           refine thenQ_r ?_
           exact rest8 ((0 : Int), ret46v.2) h
          ·have h := h.2 hb
           refine aw_skip ?_
           refine thenQ_n ?_
           refine srn 14 ⟨93, [e7_8, e7_1 b, sI 2 signs, sI 3 m, e7_17 ret46v b signs m, sB 10 ((mget ret46v.2 [(b.getD ((0 : Int)).toNat (0 : Int)), signs, m]).isSome), e7_15, e7_13 b, sI 95 signs, sI 96 i, sI 103 m, e7_10 ret46v, sI 142 sumv, e7_7], [e7_0 c0 c1 c2 c3 c4, e7_5 ret46v]⟩ (by kernel_rfl) rfl ?_
           refine aw_seq ?_
           refine srn 1 ⟨93, [e7_8, e7_1 b, sI 2 signs, sI 3 m, e7_17 ret46v b signs m, sB 50 ((mget ret46v.2 [(b.getD ((0 : Int)).toNat (0 : Int)), signs, m]).isSome), e7_15, e7_13 b, sI 95 signs, sI 96 i, sI 103 m, e7_10 ret46v, sI 142 sumv, e7_7], [e7_0 c0 c1 c2 c3 c4, e7_5 ret46v]⟩ (by kernel_rfl) rfl ?_
           refine aw_cond (b := (mget ret46v.2 [(b.getD ((0 : Int)).toNat (0 : Int)), signs, m]).isSome) (by kernel_rfl) (fun hb => ?_) (fun hb => ?_)
           ·have h := h.1 hb
            refine srn 2 ⟨93, [sI 8 ((mget ret46v.2 [(b.getD ((0 : Int)).toNat (0 : Int)), signs, m]).getD (0 : Int)), e7_15, e7_13 b, sI 95 signs, sI 96 i, sI 103 m, e7_10 ret46v, sI 142 sumv, e7_7], [e7_0 c0 c1 c2 c3 c4, e7_5 ret46v]⟩ (by kernel_rfl) rfl ?_
            refine aw_ret ?_
            refine thenQ_r ?_
            exact rest8 (((mget ret46v.2 [(b.getD ((0 : Int)).toNat (0 : Int)), signs, m]).getD (0 : Int)), ret46v.2) h
           ·have h := h.2 hb
            refine aw_skip ?_
            refine thenQ_n ?_
            refine aw_seq ?_
            refine srn 7 ⟨93, [e7_8, e7_1 b, sI 2 signs, sI 3 m, e7_17 ret46v b signs m, e7_3 c3, e7_9 c3, sI 58 (0 : Int), e7_15, e7_13 b, sI 95 signs, sI 96 i, sI 103 m, e7_10 ret46v, sI 142 sumv, e7_7], [e7_0 c0 c1 c2 c3 c4, e7_5 ret46v]⟩ (by kernel_rfl) rfl ?_
            refine withJoin (σ := Int × (List (LI × Int))) (fun s => (⟨93, [e7_8, e7_1 b, sI 2 signs, sI 3 m, sI 9 s.1, e7_15, e7_13 b, sI 95 signs, sI 96 i, sI 103 m, e7_10 ret46v, sI 142 sumv, e7_7], [e7_0 c0 c1 c2 c3 c4, (70201, [], .dict (.ar 2 tI) tI s.2)]⟩ : St)) (fun s => VCc43_k9 b signs sumv m X2 ret46v s.1 s.2) (fun s h => ?_) (fun rest10 => ?_)
            ·obtain ⟨n, l702012⟩ := s
             have h : VCc43_k9 b signs sumv m X2 ret46v n l702012 := h
             unfold VCc43_k9 at h
             refine thenQ_n ?_
             refine aw_seq ?_
             refine srn 2 ⟨93, [e7_8, e7_1 b, sI 2 signs, sI 3 m, sI 9 n, sB 82 (decide ((1099511627776 : Int) < n)), e7_15, e7_13 b, sI 95 signs, sI 96 i, sI 103 m, e7_10 ret46v, sI 142 sumv, e7_7], [e7_0 c0 c1 c2 c3 c4, e7_4 l702012]⟩ (by kernel_rfl) rfl ?_
             refine withJoin (σ := Int) (fun s => (⟨93, [e7_8, e7_1 b, sI 2 signs, sI 3 m, sI 9 s, e7_15, e7_13 b, sI 95 signs, sI 96 i, sI 103 m, e7_10 ret46v, sI 142 sumv, e7_7], [e7_0 c0 c1 c2 c3 c4, e7_4 l702012]⟩ : St)) (fun s => VCc43_k10 b signs sumv m X2 ret46v l702012 s) (fun n2 h => ?_) (fun rest9 => ?_)
             ·have h : VCc43_k10 b signs sumv m X2 ret46v l702012 n2 := h
              unfold VCc43_k10 at h
              refine thenQ_n ?_
              refine sr ?_
              refine rqT 10 ⟨93, [sI 9 n2, e7_15, e7_13 b, sI 95 signs, sI 96 i, sI 103 m, e7_10 ret46v, sI 142 sumv, e7_7], [e7_0 c0 c1 c2 c3 c4, (70201, [], .dict (.ar 2 tI) tI (mset l702012 [(b.getD ((0 : Int)).toNat (0 : Int)), signs, m] n2))]⟩ (by kernel_rfl) ?_
              refine nsr ?_
              refine rqT 2 ⟨93, [sI 8 n2, e7_15, e7_13 b, sI 95 signs, sI 96 i, sI 103 m, e7_10 ret46v, sI 142 sumv, e7_7], [e7_0 c0 c1 c2 c3 c4, (70201, [], .dict (.ar 2 tI) tI (mset l702012 [(b.getD ((0 : Int)).toNat (0 : Int)), signs, m] n2))]⟩ (by kernel_rfl) ?_
              refine nn ?_
              refine aw_ret ?_
              exact rest8 (n2, (mset l702012 [(b.getD ((0 : Int)).toNat (0 : Int)), signs, m] n2)) h
             ·refine aw_cond (b := (decide ((1099511627776 : Int) < n))) (by kernel_rfl) (fun hb => ?_) (fun hb => ?_)
              ·have h := h.1 hb
               refine aw_region ?_
               refine rqT 1 ⟨93, [e7_8, e7_1 b, sI 2 signs, sI 3 m, e7_21, e7_15, e7_13 b, sI 95 signs, sI 96 i, sI 103 m, e7_10 ret46v, sI 142 sumv, e7_7], [e7_0 c0 c1 c2 c3 c4, e7_4 l702012]⟩ (by kernel_rfl) ?_
               refine awl_nil ?_
               exact rest9 (1099511627777 : Int) h
              ·have h := h.2 hb
               refine cpr (st' := (⟨93, [e7_8, e7_1 b, sI 2 signs, sI 3 m, sI 9 n, e7_15, e7_13 b, sI 95 signs, sI 96 i, sI 103 m, e7_10 ret46v, sI 142 sumv, e7_7], [e7_0 c0 c1 c2 c3 c4, e7_4 l702012]⟩ : St)) (by kernel_rfl) ?_
               refine aw_skip ?_
               exact rest9 n h
            ·refine aw_block ?_
             refine aw_loop (σ := Int × Int × (List (LI × Int))) (fun s => (⟨93, [e7_8, e7_1 b, sI 2 signs, sI 3 m, sI 9 s.1, e7_3 c3, e7_9 c3, sI 58 s.2.1, e7_15, e7_13 b, sI 95 signs, sI 96 i, sI 103 m, e7_10 ret46v, sI 142 sumv, e7_7], [e7_0 c0 c1 c2 c3 c4, (70201, [], .dict (.ar 2 tI) tI s.2.2)]⟩ : St)) (fun s X => VCc43_l3 c0 c3 R b signs sumv m X2 ret46v s.1 s.2.1 s.2.2 X) (s0 := (((mget ret46v.2 [(b.getD ((0 : Int)).toNat (0 : Int)), signs, m]).getD (0 : Int)), (0 : Int), ret46v.2)) (fun s X3 h => ?_) h
             obtain ⟨n, v58, l702012⟩ := s
             have h : VCc43_l3 c0 c3 R b signs sumv m X2 ret46v n v58 l702012 X3 := h
             unfold VCc43_l3 at h
             refine srn 1 ⟨93, [e7_8, e7_1 b, sI 2 signs, sI 3 m, sI 9 n, e7_3 c3, e7_9 c3, sI 58 v58, sB 59 (decide (v58 < (c3.length : Int))), e7_15, e7_13 b, sI 95 signs, sI 96 i, sI 103 m, e7_10 ret46v, sI 142 sumv, e7_7], [e7_0 c0 c1 c2 c3 c4, e7_4 l702012]⟩ (by kernel_rfl) rfl ?_
             refine aw_seq ?_
             refine aw_cond (b := (decide (v58 < (c3.length : Int)))) (by kernel_rfl) (fun hb => ?_) (fun hb => ?_)
             ·have h := h.1 hb
              refine aw_skip ?_
              refine thenQ_n ?_
              refine aw_seq ?_
              refine aw_block ?_
              refine sr ?_
              obtain ⟨o1, h⟩ := h
              refine rq 4 (ob := (inIdx v58 c3.length ∧ Ts 3 True)) (st' := (⟨93, [e7_8, e7_1 b, sI 2 signs, sI 3 m, sI 9 n, sp 12 12, e7_3 c3, e7_9 c3, sI 58 v58, e7_15, e7_13 b, sI 95 signs, sI 96 i, sI 103 m, e7_10 ret46v, sI 142 sumv, e7_7], [e7_12 c3 v58, e7_0 c0 c1 c2 c3 c4, e7_4 l702012]⟩ : St)) (by kernel_rfl) (⟨o1, tsI 3 trivial⟩) ?_
              refine nn ?_
              refine aw_seq ?_
              refine awd_begin [] (by kernel_rfl) ?_
              obtain ⟨o1, h⟩ := h
              refine drq (by kernel_rfl) [0, 1, 2, 3, 4, 5, 6, 7, 8, 9] (ob := (Ts 8 (InR ((b.getD ((0 : Int)).toNat (0 : Int)) - c0) ∧ Ts 1 True))) (done' := [9, 8, 7, 6, 5, 4, 3, 2, 1, 0]) (st' := (⟨93, [e7_8, e7_1 b, sI 2 signs, sI 3 m, sI 9 n, sp 12 12, e7_3 c3, e7_9 c3, sI 58 v58, sB 71 (decide ((c3.getD (v58).toNat ((0 : Int), ([] : LI))).1 = ((b.getD ((0 : Int)).toNat (0 : Int)) - c0))), e7_15, e7_13 b, sI 95 signs, sI 96 i, sI 103 m, e7_10 ret46v, sI 142 sumv, e7_7], [e7_12 c3 v58, e7_0 c0 c1 c2 c3 c4, e7_4 l702012]⟩ : St)) (by kernel_rfl) (tsI 8 ⟨o1, tsI 1 trivial⟩) ?_
              refine awd_done (by kernel_rfl) ?_
              refine thenQ_n ?_
              refine withJoin (σ := Int × (List (LI × Int))) (fun s => (⟨93, [e7_8, e7_1 b, sI 2 signs, sI 3 m, sI 9 s.1, e7_3 c3, e7_9 c3, sI 58 v58, e7_15, e7_13 b, sI 95 signs, sI 96 i, sI 103 m, e7_10 ret46v, sI 142 sumv, e7_7], [e7_0 c0 c1 c2 c3 c4, (70201, [], .dict (.ar 2 tI) tI s.2)]⟩ : St)) (fun s => VCc43_k11 v58 X3 s.1 s.2) (fun s h => ?_) (fun rest11 => ?_)
              ·obtain ⟨n2, l702013⟩ := s
               have h : VCc43_k11 v58 X3 n2 l702013 := h
               unfold VCc43_k11 at h
               refine blockQ_n ?_
               refine thenQ_n ?_
               refine aw_region ?_
               obtain ⟨o1, h⟩ := h
               refine rq 2 (ob := (InR (v58 + (1 : Int)) ∧ Ts 1 True)) (st' := (⟨93, [e7_8, e7_1 b, sI 2 signs, sI 3 m, sI 9 n2, e7_3 c3, e7_9 c3, sI 58 (v58 + (1 : Int)), e7_15, e7_13 b, sI 95 signs, sI 96 i, sI 103 m, e7_10 ret46v, sI 142 sumv, e7_7], [e7_0 c0 c1 c2 c3 c4, (70201, [], .dict (.ar 2 tI) tI l702013)]⟩ : St)) (by kernel_rfl) (⟨o1, tsI 1 trivial⟩) ?_
               refine awl_nil ?_
               exact thenQ_n ⟨(n2, (v58 + (1 : Int)), l702013), rfl, h⟩
              ·refine aw_cond (b := (decide ((c3.getD (v58).toNat ((0 : Int), ([] : LI))).1 = ((b.getD ((0 : Int)).toNat (0 : Int)) - c0)))) (by kernel_rfl) (fun hb => ?_) (fun hb => ?_)
               ·have h := h.1 hb
                refine aw_region ?_
                refine rqT 6 ⟨93, [e7_8, e7_1 b, sI 2 signs, sI 3 m, e7_3 c3, e7_9 c3, sI 58 v58, sI 72 n, sp 73 70200, e7_19 c3 v58, sI 76 signs, sI 77 m, e7_15, e7_13 b, sI 95 signs, sI 96 i, sI 103 m, e7_10 ret46v, sI 142 sumv, e7_7], [e7_0 c0 c1 c2 c3 c4, e7_4 l702012]⟩ (by kernel_rfl) ?_
                refine awl_lcall (σ := Int × (List (LI × Int))) [70200, 70201] [70200] [.c (.ptr 70200 0), .c (.pS ((c3.getD (v58).toNat ((0 : Int), ([] : LI))).2)), .c (.pI signs), .c (.pI m)] [] (fun ret78v => .v (.c (.pI ret78v.1))) (fun ret78v => [e7_0 c0 c1 c2 c3 c4, e7_11 ret78v]) (_) [e7_0 c0 c1 c2 c3 c4, e7_4 l702012] (fun ret78v => (⟨93, [sI 78 ret78v.1, e7_8, e7_1 b, sI 2 signs, sI 3 m, e7_3 c3, e7_9 c3, sI 58 v58, sI 72 n, sp 73 70200, e7_19 c3 v58, sI 76 signs, sI 77 m, e7_15, e7_13 b, sI 95 signs, sI 96 i, sI 103 m, e7_10 ret46v, sI 142 sumv, e7_7], [e7_0 c0 c1 c2 c3 c4, e7_11 ret78v]⟩ : St)) rfl rfl (by kernel_rfl) rfl (by kernel_rfl) Try.call43 (by kernel_rfl) (by kernel_rfl) (by kernel_rfl) (fun _ _ => rfl) (fun _ => by kernel_rfl) (hR ((c3.getD (v58).toNat ((0 : Int), ([] : LI))).2) signs m l702012 _ h) (fun ret78v h => ?_)
                refine lpr (st' := (⟨93, [e7_8, e7_1 b, sI 2 signs, sI 3 m, e7_3 c3, e7_9 c3, sI 58 v58, sI 72 n, sI 78 ret78v.1, e7_15, e7_13 b, sI 95 signs, sI 96 i, sI 103 m, e7_10 ret46v, sI 142 sumv, e7_7], [e7_0 c0 c1 c2 c3 c4, e7_11 ret78v]⟩ : St)) (by kernel_rfl) ?_
                obtain ⟨o1, h⟩ := h
                refine rq 2 (ob := (InR (n + ret78v.1) ∧ Ts 1 True)) (st' := (⟨93, [e7_8, e7_1 b, sI 2 signs, sI 3 m, sI 9 (n + ret78v.1), e7_3 c3, e7_9 c3, sI 58 v58, e7_15, e7_13 b, sI 95 signs, sI 96 i, sI 103 m, e7_10 ret46v, sI 142 sumv, e7_7], [e7_0 c0 c1 c2 c3 c4, e7_11 ret78v]⟩ : St)) (by kernel_rfl) (⟨o1, tsI 1 trivial⟩) ?_
                refine awl_nil ?_
                exact rest11 ((n + ret78v.1), ret78v.2) h
               ·have h := h.2 hb
                refine cpr (st' := (⟨93, [e7_8, e7_1 b, sI 2 signs, sI 3 m, sI 9 n, e7_3 c3, e7_9 c3, sI 58 v58, e7_15, e7_13 b, sI 95 signs, sI 96 i, sI 103 m, e7_10 ret46v, sI 142 sumv, e7_7], [e7_0 c0 c1 c2 c3 c4, e7_4 l702012]⟩ : St)) (by kernel_rfl) ?_
                refine aw_skip ?_
                exact rest11 (n, l702012) h
             ·have h := h.2 hb
              refine cpr (st' := (⟨93, [e7_8, e7_1 b, sI 2 signs, sI 3 m, sI 9 n, e7_15, e7_13 b, sI 95 signs, sI 96 i, sI 103 m, e7_10 ret46v, sI 142 sumv, e7_7], [e7_0 c0 c1 c2 c3 c4, e7_4 l702012]⟩ : St)) (by kernel_rfl) ?_
              refine aw_exit ?_
              refine thenQ_x ?_
              refine thenQ_x ?_
              refine blockQ_hit ?_
              exact rest10 (n, l702012) h
       ·have h := h.2 hb
        refine cpr (st' := (⟨63, [e7_8, e7_16 b, sI 2 signs, sI 3 i, sI 9 sumv, sI 10 m, e7_14], [e7_0 c0 c1 c2 c3 c4, e7_5 ret46v]⟩ : St)) (by kernel_rfl) ?_
        refine aw_skip ?_
        exact rest7 (sumv, ret46v.2) h
     ·have h := h.2 hb
      refine cpr (st' := (⟨63, [sI 9 sumv, e7_14], [e7_0 c0 c1 c2 c3 c4, e7_6 l70201]⟩ : St)) (by kernel_rfl) ?_
      refine aw_exit ?_
      refine thenQ_x ?_
      refine thenQ_x ?_
      refine blockQ_hit ?_
      exact rest5 (sumv, l70201) h
def VCc43_it (c0 : Int) (c1 : Int) (c2 : Int) (c3 : LR) (c4 : LI) : Nat → LI → Int → Int → (List (LI × Int)) → (Int × (List (LI × Int)) → Prop) → Prop
  | 0 => fun _ _ _ _ _ => False
  | n + 1 => fun b signs i c5 K => VCc43 c0 c1 c2 c3 c4 (VCc43_it c0 c1 c2 c3 c4 n) b signs i c5 K
def VCcr43 (c0 : Int) (c1 : Int) (c2 : Int) (c3 : LR) (c4 : LI) (b : LI) (signs : Int) (i : Int) (c5 : (List (LI × Int))) (K : Int × (List (LI × Int)) → Prop) : Prop := ∃ n, VCc43_it c0 c1 c2 c3 c4 n b signs i c5 K
theorem linkci43 (c0 : Int) (c1 : Int) (c2 : Int) (c3 : LR) (c4 : LI) : ∀ (n : Nat) (b : LI) (signs : Int) (i : Int) (c5 : (List (LI × Int))) (K : Int × (List (LI × Int)) → Prop), VCc43_it c0 c1 c2 c3 c4 n b signs i c5 K → LCalls Try.prog 43 [70200, 70201] [70200] [e7_0 c0 c1 c2 c3 c4, e7_2 c5] [.c (.ptr 70200 0), .c (.pS b), .c (.pI signs), .c (.pI i)] (fun av hp' => ∃ y : Int × (List (LI × Int)), av = .v (.c (.pI y.1)) ∧ hp' = [e7_0 c0 c1 c2 c3 c4, (70201, [], .dict (.ar 2 tI) tI y.2)] ∧ K y)
  | 0, _, _, _, _, _, h => False.elim h
  | n + 1, b, signs, i, c5, K, h => linkc43 c0 c1 c2 c3 c4 (VCc43_it c0 c1 c2 c3 c4 n) (linkci43 c0 c1 c2 c3 c4 n) b signs i c5 K h
theorem linkcr43 (c0 : Int) (c1 : Int) (c2 : Int) (c3 : LR) (c4 : LI) (b : LI) (signs : Int) (i : Int) (c5 : (List (LI × Int))) (K : Int × (List (LI × Int)) → Prop) (h : VCcr43 c0 c1 c2 c3 c4 b signs i c5 K) : LCalls Try.prog 43 [70200, 70201] [70200] [e7_0 c0 c1 c2 c3 c4, e7_2 c5] [.c (.ptr 70200 0), .c (.pS b), .c (.pI signs), .c (.pI i)] (fun av hp' => ∃ y : Int × (List (LI × Int)), av = .v (.c (.pI y.1)) ∧ hp' = [e7_0 c0 c1 c2 c3 c4, (70201, [], .dict (.ar 2 tI) tI y.2)] ∧ K y) := by
  obtain ⟨n, h⟩ := h
  exact linkci43 c0 c1 c2 c3 c4 n b signs i c5 K h
abbrev e7a0 (g : TG) (w : LI) : Nat × Path × Con := hB 9 [.pI g.1, .pI g.2.1, .pI g.2.2.1, .p (.sl tR) g.2.2.2, .pS w, .own 7]
abbrev e7a1 (g : TG) (w : LI) : Nat × Path × Con := hB 70200 [.pI g.1, .pI g.2.1, .pI g.2.2.1, .p (.sl tR) g.2.2.2, .pS w, .own 70201]
abbrev e7a2 (g : TG) : Nat × Path × AV := s1 56 (.p (.sl tR) g.2.2.2)
abbrev e7a3 (g : TG) : Nat × Path × Con := hB 2 [.pI g.1, .pI g.2.1, .pI g.2.2.1, .p (.sl tR) g.2.2.2]
abbrev e7a4 : Nat × Path × Con := (7, [], .dict (.ar 2 tI) tI ([] : List (LI × Int)))
abbrev e7a5 (w : LI) : Nat × Path × AV := sI 3 (w.length : Int)
abbrev e7a6 (g : TG) : Nat × Path × AV := sI 1 (g.1 + g.2.2.1)
abbrev e7a7 (l7 : (List (LI × Int))) : Nat × Path × Con := (7, [], .dict (.ar 2 tI) tI l7)
abbrev e7a8 (g : TG) : Nat × Path × AV := sI 57 (g.2.2.2.length : Int)
abbrev e7a9 : Nat × Path × AV := sI 2 (0 : Int)
abbrev e7a10 (g : TG) (w : LI) : Nat × Path × AV := sI 9 ((mget ([] : List (LI × Int)) [(g.1 + g.2.2.1), (0 : Int), (w.length : Int)]).getD (0 : Int))
abbrev e7a11 (g : TG) (v58 : Int) : Nat × Path × Con := hB 12 [.pI ((g.2.2.2.getD (v58).toNat ((0 : Int), ([] : LI))).1), .pS ((g.2.2.2.getD (v58).toNat ((0 : Int), ([] : LI))).2)]
abbrev e7a12 (ret78v : Int × (List (LI × Int))) : Nat × Path × Con := (70201, [], .dict (.ar 2 tI) tI ret78v.2)
abbrev e7a13 (g : TG) (v58 : Int) : Nat × Path × AV := s1 75 (.pS ((g.2.2.2.getD (v58).toNat ((0 : Int), ([] : LI))).2))
abbrev e7a14 (l7 : (List (LI × Int))) : Nat × Path × Con := (70201, [], .dict (.ar 2 tI) tI l7)
abbrev e7an0 : List Nat := [0, 1, 2, 3, 9, 56, 57, 58]
-- coppicer/coppicerkeep.trees
def VC7_k1 (K : Int × Bool → Prop) (v8 : Int) : Prop :=
  K (v8, true)
def VC7_k3 (K : Int × Bool → Prop) (n2 : Int) : Prop :=
  VC7_k1 K n2
def VC7_k2 (K : Int × Bool → Prop) (n : Int) (l7 : (List (LI × Int))) : Prop :=
  (((decide ((1099511627776 : Int) < n)) = true → VC7_k3 K (1099511627777 : Int)) ∧ ((decide ((1099511627776 : Int) < n)) = false → VC7_k3 K n))
def VC7_k4 (v58 : Int) (X1 : Int × Int × (List (LI × Int)) → Prop) (n2 : Int) (l70201 : (List (LI × Int))) : Prop :=
  (InR (v58 + (1 : Int)) ∧ X1 (n2, (v58 + (1 : Int)), l70201))
def VC7_l1 (g : TG) (w : LI) (K : Int × Bool → Prop) (n : Int) (v58 : Int) (l7 : (List (LI × Int))) (X1 : Int × Int × (List (LI × Int)) → Prop) : Prop :=
  (((decide (v58 < (g.2.2.2.length : Int))) = true → (inIdx v58 g.2.2.2.length ∧ (InR ((g.1 + g.2.2.1) - g.1) ∧ (((decide ((g.2.2.2.getD (v58).toNat ((0 : Int), ([] : LI))).1 = ((g.1 + g.2.2.1) - g.1))) = true → VCcr43 g.1 g.2.1 g.2.2.1 g.2.2.2 w ((g.2.2.2.getD (v58).toNat ((0 : Int), ([] : LI))).2) (0 : Int) (w.length : Int) l7 (fun (ret78v : Int × (List (LI × Int))) => (InR (n + ret78v.1) ∧ VC7_k4 v58 X1 (n + ret78v.1) ret78v.2))) ∧ ((decide ((g.2.2.2.getD (v58).toNat ((0 : Int), ([] : LI))).1 = ((g.1 + g.2.2.1) - g.1))) = false → VC7_k4 v58 X1 n l7))))) ∧ ((decide (v58 < (g.2.2.2.length : Int))) = false → VC7_k2 K n l7))
def VC7 (g : TG) (w : LI) (K : Int × Bool → Prop) : Prop :=
  VC18 g w (fun (ret8v : Bool) => gcall (α := Bool) (!(!ret8v)) (VC19 g) false (fun (ret12v : Bool) => ((((!ret8v) || (!ret12v)) = true → K ((0 : Int), false)) ∧ (((!ret8v) || (!ret12v)) = false → (InR (g.1 + g.2.2.1) ∧ (((decide ((g.1 + g.2.2.1) < g.1)) = true → (InR ((0 : Int) + (1 : Int)) ∧ ((decide ((w.length : Int) = ((0 : Int) + (1 : Int)))) = true → inIdx (0 : Int) w.length) ∧ ((((decide ((w.length : Int) = ((0 : Int) + (1 : Int)))) && (decide ((w.getD ((0 : Int)).toNat (0 : Int)) = (g.1 + g.2.2.1)))) = true → VC7_k1 K (1 : Int)) ∧ (((decide ((w.length : Int) = ((0 : Int) + (1 : Int)))) && (decide ((w.getD ((0 : Int)).toNat (0 : Int)) = (g.1 + g.2.2.1)))) = false → VC7_k1 K (0 : Int))))) ∧ ((decide ((g.1 + g.2.2.1) < g.1)) = false → (((decide ((0 : Int) = (w.length : Int))) = true → VC7_k1 K (0 : Int)) ∧ ((decide ((0 : Int) = (w.length : Int))) = false → (((mget ([] : List (LI × Int)) [(g.1 + g.2.2.1), (0 : Int), (w.length : Int)]).isSome = true → VC7_k1 K ((mget ([] : List (LI × Int)) [(g.1 + g.2.2.1), (0 : Int), (w.length : Int)]).getD (0 : Int))) ∧ ((mget ([] : List (LI × Int)) [(g.1 + g.2.2.1), (0 : Int), (w.length : Int)]).isSome = false → Loop (σ := Int × Int × (List (LI × Int))) (fun s X => VC7_l1 g w K s.1 s.2.1 s.2.2 X) (((mget ([] : List (LI × Int)) [(g.1 + g.2.2.1), (0 : Int), (w.length : Int)]).getD (0 : Int)), (0 : Int), ([] : List (LI × Int))))))))))))))
set_option maxHeartbeats 4000000 in
theorem link7 (g : TG) (w : LI) (K : Int × Bool → Prop) (h : VC7 g w K) : ACalls Try.prog 7 [toV1 tG g, toV1 (.sl tI) w] (fun res => ∃ y, res = (fun y => [toV1 tI y.1, toV1 .bool y.2]) y ∧ K y) := by
 refine acalls_of_aw [tI, .bool] [.t 4, .t 5] Try.func7 rfl rfl rfl ?_
 unfold VC7 at h
 refine srn 3 ⟨26, [s1 1 (.pS w), sp 2 2], [e7a3 g]⟩ (by kernel_rfl) rfl ?_
 refine aw_seq ?_
 refine sr ?_
 refine rqT 2 ⟨26, [s1 1 (.pS w), sp 2 2, sA 6 [.pI g.1, .pI g.2.1, .pI g.2.2.1, .p (.sl tR) g.2.2.2], s1 7 (.pS w)], [e7a3 g]⟩ (by kernel_rfl) ?_
 refine lcq (d := 8) [.d tG, .d (.sl tI)] (fun ret8v => (⟨26, [s1 1 (.pS w), sp 2 2, sB 8 ret8v], [e7a3 g]⟩ : St)) (by kernel_rfl) Try.call18 (fun _ => by kernel_rfl) (link18 g w _ h) (fun ret8v h => ?_)
 refine rq 3 (ob := (Ts 2 (((!ret8v) = false → True) ∧ True))) (st' := (⟨26, [s1 1 (.pS w), sp 2 2, sB 10 (!ret8v), (11, [(10, false)], .v (.agg [.pI g.1, .pI g.2.1, .pI g.2.2.1, .p (.sl tR) g.2.2.2]))], [e7a3 g]⟩ : St)) (by kernel_rfl) (tsI 2 ⟨(fun _ => trivial), trivial⟩) ?_
 refine awl_callk (p := [(10, false)]) (l := [toV1 tG g]) (cl := []) false [.d tG] [1, 2, 10, 12] [2] (fun (ret12v : Bool) => ((((!ret8v) || (!ret12v)) = true → K ((0 : Int), false)) ∧ (((!ret8v) || (!ret12v)) = false → (InR (g.1 + g.2.2.1) ∧ (((decide ((g.1 + g.2.2.1) < g.1)) = true → (InR ((0 : Int) + (1 : Int)) ∧ ((decide ((w.length : Int) = ((0 : Int) + (1 : Int)))) = true → inIdx (0 : Int) w.length) ∧ ((((decide ((w.length : Int) = ((0 : Int) + (1 : Int)))) && (decide ((w.getD ((0 : Int)).toNat (0 : Int)) = (g.1 + g.2.2.1)))) = true → VC7_k1 K (1 : Int)) ∧ (((decide ((w.length : Int) = ((0 : Int) + (1 : Int)))) && (decide ((w.getD ((0 : Int)).toNat (0 : Int)) = (g.1 + g.2.2.1)))) = false → VC7_k1 K (0 : Int))))) ∧ ((decide ((g.1 + g.2.2.1) < g.1)) = false → (((decide ((0 : Int) = (w.length : Int))) = true → VC7_k1 K (0 : Int)) ∧ ((decide ((0 : Int) = (w.length : Int))) = false → (((mget ([] : List (LI × Int)) [(g.1 + g.2.2.1), (0 : Int), (w.length : Int)]).isSome = true → VC7_k1 K ((mget ([] : List (LI × Int)) [(g.1 + g.2.2.1), (0 : Int), (w.length : Int)]).getD (0 : Int))) ∧ ((mget ([] : List (LI × Int)) [(g.1 + g.2.2.1), (0 : Int), (w.length : Int)]).isSome = false → Loop (σ := Int × Int × (List (LI × Int))) (fun s X => VC7_l1 g w K s.1 s.2.1 s.2.2 X) (((mget ([] : List (LI × Int)) [(g.1 + g.2.2.1), (0 : Int), (w.length : Int)]).getD (0 : Int)), (0 : Int), ([] : List (LI × Int))))))))))))) (fun ret12v => [toV1 .bool ret12v]) (fun ret12v => (⟨26, [s1 1 (.pS w), sp 2 2, sB 10 (!ret8v), (12, [(10, false)], .v (.c (.pB ret12v)))], [e7a3 g]⟩ : St)) (by kernel_rfl) rfl (by kernel_rfl) rfl (by kernel_rfl) Try.call19 (by kernel_rfl) (fun ret12v => by kernel_rfl) (fun e => by cases e) (fun hg => link19 g _ (by have := gcall_T h (show (!(!ret8v)) = true from hg); exact this)) (fun hg => ⟨false, by have := gcall_F h (show (!(!ret8v)) = false from hg); exact this⟩) (fun ret12v h => ?_)
 refine rq 2 (ob := (((!ret8v) = false → True) ∧ Ts 1 True)) (st' := (⟨26, [s1 1 (.pS w), sp 2 2, sB 14 ((!ret8v) || (!ret12v))], [e7a3 g]⟩ : St)) (by kernel_rfl) (⟨(fun _ => trivial), tsI 1 trivial⟩) ?_
 refine nn ?_
 refine aw_cond (b := ((!ret8v) || (!ret12v))) (by kernel_rfl) (fun hb => ?_) (fun hb => ?_)
 ·have h := h.1 hb
  refine srn 2 ⟨26, [sI 4 (0 : Int), sB 5 false], []⟩ (by kernel_rfl) rfl ?_
  refine aw_ret ?_
  refine thenQ_r ?_
  exact retQ_r (ob := Ts 2 True) _ (by kernel_rfl) (tsI 2 trivial) h
 ·have h := h.2 hb
  refine aw_skip ?_
  refine thenQ_n ?_
  refine aw_seq ?_
  refine aw_conv [.ren 2 30000] (st' := (⟨26, [s1 1 (.pS w), sp 2 30000, sB 14 ((!ret8v) || (!ret12v))], [hB 30000 [.pI g.1, .pI g.2.1, .pI g.2.2.1, .p (.sl tR) g.2.2.2]]⟩ : St)) (by kernel_rfl) ?_
  refine awd_begin [7, 9] (by kernel_rfl) ?_
  obtain ⟨o1, h⟩ := h
  refine drq (by kernel_rfl) [0, 1, 3, 4, 5, 6, 7, 8, 9] (ob := (Ts 6 (InR (g.1 + g.2.2.1) ∧ Ts 2 True))) (done' := [9, 8, 7, 6, 5, 4, 3, 1, 0]) (st' := (⟨26, [sA 15 [.pI g.1, .pI g.2.1, .pI g.2.2.1, .p (.sl tR) g.2.2.2], s1 16 (.pS w), sI 22 (g.1 + g.2.2.1), sI 24 (w.length : Int)], []⟩ : St)) (by kernel_rfl) (tsI 6 ⟨o1, tsI 2 trivial⟩) ?_
  refine awd_one (i := 2) (by kernel_rfl) ?_
  refine adop_inlr [.t 4] [.agg [.pI g.1, .pI g.2.1, .pI g.2.2.1, .p (.sl tR) g.2.2.2], .c (.pS w)] [] rfl rfl rfl (by kernel_rfl) rfl (by kernel_rfl) Try.call20 (by kernel_rfl) (by kernel_rfl) Try.func20 rfl rfl (by kernel_rfl) ?_
  refine aw_conv [] (st' := (⟨10, [sA 0 [.pI g.1, .pI g.2.1, .pI g.2.2.1, .p (.sl tR) g.2.2.2], s1 1 (.pS w), sA 25 [.pI g.1, .pI g.2.1, .pI g.2.2.1, .p (.sl tR) g.2.2.2], s1 26 (.pS w), sI 32 (g.1 + g.2.2.1), sI 34 (w.length : Int)], []⟩ : St)) (by kernel_rfl) ?_
  refine sr ?_
  refine rqT 2 ⟨10, [s1 1 (.pS w), sp 2 2, sI 32 (g.1 + g.2.2.1), sI 34 (w.length : Int)], [e7a3 g]⟩ (by kernel_rfl) ?_
  refine nsr ?_
  refine rqT 6 ⟨10, [sp 4 9, sI 32 (g.1 + g.2.2.1), sI 34 (w.length : Int)], [e7a4, e7a0 g w]⟩ (by kernel_rfl) ?_
  refine nn ?_
  refine aw_ret ?_
  refine inlR_r (ob := True) (.v (.c (.ptr 9 0))) (by kernel_rfl) trivial rfl ?_
  refine dpr (st' := (⟨26, [sp 17 9, sI 22 (g.1 + g.2.2.1), sI 24 (w.length : Int)], [e7a4, e7a0 g w]⟩ : St)) (by kernel_rfl) ?_
  refine awd_one (i := 10) (by kernel_rfl) ?_
  refine adop_inlr [.t 8] [.c (.ptr 9 0), .c (.pI (g.1 + g.2.2.1)), .c (.pI (0 : Int)), .c (.pI (w.length : Int))] [] rfl rfl rfl (by kernel_rfl) rfl (by kernel_rfl) Try.call21 (by kernel_rfl) (by kernel_rfl) Try.func21 rfl rfl (by kernel_rfl) ?_
  refine aw_conv [] (st' := (⟨93, [sp 0 9, e7a6 g, e7a9, e7a5 w, sp 110 9, sI 115 (g.1 + g.2.2.1), sI 117 (w.length : Int)], [e7a4, e7a0 g w]⟩ : St)) (by kernel_rfl) ?_
  refine withJoinR (σ := Int) (fun s => (⟨93, [sI 8 s], []⟩ : St)) (fun s => VC7_k1 K s) (fun v8 h => ?_) (fun rest1 => ?_)
  ·have h : VC7_k1 K v8 := h
   unfold VC7_k1 at h
   refine inlR_n (ob := True) (.v (.c (.pI v8))) (by kernel_rfl) trivial rfl ?_
   refine dpr (st' := (⟨26, [sI 25 v8], []⟩ : St)) (by kernel_rfl) ?_
   refine drq (by kernel_rfl) [11, 12] (ob := (Ts 2 True)) (done' := [12, 11, 10, 2, 9, 8, 7, 6, 5, 4, 3, 1, 0]) (st' := (⟨26, [sI 4 v8, sB 5 true], []⟩ : St)) (by kernel_rfl) (tsI 2 trivial) ?_
   refine awd_done (by kernel_rfl) ?_
   refine thenQ_n ?_
   refine aw_ret ?_
   exact retQ_r (ob := Ts 2 True) _ (by kernel_rfl) (tsI 2 trivial) h
  ·refine srn 1 ⟨93, [sp 0 9, e7a6 g, e7a9, e7a5 w], [e7a4, e7a0 g w]⟩ (by kernel_rfl) rfl ?_
   refine aw_seq ?_
   refine srn 7 ⟨93, [sp 0 9, e7a6 g, e7a9, e7a5 w, sB 19 (decide ((g.1 + g.2.2.1) < g.1))], [e7a4, e7a0 g w]⟩ (by kernel_rfl) rfl ?_
   refine aw_cond (b := (decide ((g.1 + g.2.2.1) < g.1))) (by kernel_rfl) (fun hb => ?_) (fun hb => ?_)
   ·have h := h.1 hb
    refine aw_seq ?_
    refine sr ?_
    obtain ⟨o1, o2, h⟩ := h
    refine rq 15 (ob := (Ts 2 (InR ((0 : Int) + (1 : Int)) ∧ Ts 2 (Ti 5 ((decide ((w.length : Int) = ((0 : Int) + (1 : Int)))) = true → True) (((decide ((w.length : Int) = ((0 : Int) + (1 : Int)))) = true → inIdx (0 : Int) w.length) ∧ Ti 3 ((decide ((w.length : Int) = ((0 : Int) + (1 : Int)))) = true → True) (Ts 1 True)))))) (st' := (⟨93, [sB 34 ((decide ((w.length : Int) = ((0 : Int) + (1 : Int)))) && (decide ((w.getD ((0 : Int)).toNat (0 : Int)) = (g.1 + g.2.2.1))))], []⟩ : St)) (by kernel_rfl) (tsI 2 (⟨o1, tsI 2 (tiI 5 (fun _ => trivial) ⟨o2, tiI 3 (fun _ => trivial) (tsI 1 trivial)⟩)⟩)) ?_
    refine nn ?_
    refine aw_cond (b := ((decide ((w.length : Int) = ((0 : Int) + (1 : Int)))) && (decide ((w.getD ((0 : Int)).toNat (0 : Int)) = (g.1 + g.2.2.1))))) (by kernel_rfl) (fun hb => ?_) (fun hb => ?_)
    ·have h := h.1 hb
     refine srn 1 ⟨93, [sI 8 (1 : Int)], []⟩ (by kernel_rfl) rfl ?_
     refine aw_ret ?_
     refine thenQ_r ?_
     refine thenQ_r ?_
     exact rest1 (1 : Int) h
    ·have h := h.2 hb
     refine aw_skip ?_
     refine thenQ_n ?_
     refine srn 1 ⟨93, [sI 8 (0 : Int)], []⟩ (by kernel_rfl) rfl ?_
     refine aw_ret ?_
     refine thenQ_r ?_
     exact rest1 (0 : Int) h
   ·have h := h.2 hb
    refine aw_skip ?_
    refine thenQ_n ?_
    refine aw_seq ?_
    refine srn 3 ⟨93, [sp 0 9, e7a6 g, e7a9, e7a5 w, sB 37 (decide ((0 : Int) = (w.length : Int)))], [e7a4, e7a0 g w]⟩ (by kernel_rfl) rfl ?_
    refine aw_cond (b := (decide ((0 : Int) = (w.length : Int)))) (by kernel_rfl) (fun hb => ?_) (fun hb => ?_)
    ·have h := h.1 hb
     refine srn 1 ⟨93, [sI 8 (0 : Int)], []⟩ (by kernel_rfl) rfl ?_
     refine aw_ret ?_
     refine thenQ_r ?_
     exact rest1 (0 : Int) h
    ·have h := h.2 hb
     refine aw_skip ?_
     refine thenQ_n ?_
     refine srn 14 ⟨93, [sp 0 9, e7a6 g, e7a9, e7a5 w, e7a10 g w, sB 10 ((mget ([] : List (LI × Int)) [(g.1 + g.2.2.1), (0 : Int), (w.length : Int)]).isSome)], [e7a4, e7a0 g w]⟩ (by kernel_rfl) rfl ?_
     refine aw_seq ?_
     refine srn 1 ⟨93, [sp 0 9, e7a6 g, e7a9, e7a5 w, e7a10 g w, sB 50 ((mget ([] : List (LI × Int)) [(g.1 + g.2.2.1), (0 : Int), (w.length : Int)]).isSome)], [e7a4, e7a0 g w]⟩ (by kernel_rfl) rfl ?_
     refine aw_cond (b := (mget ([] : List (LI × Int)) [(g.1 + g.2.2.1), (0 : Int), (w.length : Int)]).isSome) (by kernel_rfl) (fun hb => ?_) (fun hb => ?_)
     ·have h := h.1 hb
      refine srn 2 ⟨93, [sI 8 ((mget ([] : List (LI × Int)) [(g.1 + g.2.2.1), (0 : Int), (w.length : Int)]).getD (0 : Int))], []⟩ (by kernel_rfl) rfl ?_
      refine aw_ret ?_
      refine thenQ_r ?_
      exact rest1 ((mget ([] : List (LI × Int)) [(g.1 + g.2.2.1), (0 : Int), (w.length : Int)]).getD (0 : Int)) h
     ·have h := h.2 hb
      refine aw_skip ?_
      refine thenQ_n ?_
      refine aw_seq ?_
      refine srn 7 ⟨93, [sp 0 9, e7a6 g, e7a9, e7a5 w, e7a10 g w, e7a2 g, e7a8 g, sI 58 (0 : Int)], [e7a4, e7a0 g w]⟩ (by kernel_rfl) rfl ?_
      refine withJoin (σ := Int × (List (LI × Int))) (fun s => (⟨93, [sp 0 9, e7a6 g, e7a9, e7a5 w, sI 9 s.1], [(7, [], .dict (.ar 2 tI) tI s.2), e7a0 g w]⟩ : St)) (fun s => VC7_k2 K s.1 s.2) (fun s h => ?_) (fun rest3 => ?_)
      ·obtain ⟨n, l7⟩ := s
       have h : VC7_k2 K n l7 := h
       unfold VC7_k2 at h
       refine thenQ_n ?_
       refine aw_seq ?_
       refine srn 2 ⟨93, [sp 0 9, e7a6 g, e7a9, e7a5 w, sI 9 n, sB 82 (decide ((1099511627776 : Int) < n))], [e7a7 l7, e7a0 g w]⟩ (by kernel_rfl) rfl ?_
       refine withJoin (σ := Int) (fun s => (⟨93, [sp 0 9, e7a6 g, e7a9, e7a5 w, sI 9 s], [e7a7 l7, e7a0 g w]⟩ : St)) (fun s => VC7_k3 K s) (fun n2 h => ?_) (fun rest2 => ?_)
       ·have h : VC7_k3 K n2 := h
        unfold VC7_k3 at h
        refine thenQ_n ?_
        refine sr ?_
        refine rqT 10 ⟨93, [sI 9 n2], []⟩ (by kernel_rfl) ?_
        refine nsr ?_
        refine rqT 2 ⟨93, [sI 8 n2], []⟩ (by kernel_rfl) ?_
        refine nn ?_
        refine aw_ret ?_
        exact rest1 n2 h
       ·refine aw_cond (b := (decide ((1099511627776 : Int) < n))) (by kernel_rfl) (fun hb => ?_) (fun hb => ?_)
        ·have h := h.1 hb
         refine aw_region ?_
         refine rqT 1 ⟨93, [sp 0 9, e7a6 g, e7a9, e7a5 w, sI 9 (1099511627777 : Int)], [e7a7 l7, e7a0 g w]⟩ (by kernel_rfl) ?_
         refine awl_nil ?_
         exact rest2 (1099511627777 : Int) h
        ·have h := h.2 hb
         refine cpr (st' := (⟨93, [sp 0 9, e7a6 g, e7a9, e7a5 w, sI 9 n], [e7a7 l7, e7a0 g w]⟩ : St)) (by kernel_rfl) ?_
         refine aw_skip ?_
         exact rest2 n h
      ·refine aw_block ?_
       refine aw_loop (σ := Int × Int × (List (LI × Int))) (fun s => (⟨93, [sp 0 9, e7a6 g, e7a9, e7a5 w, sI 9 s.1, e7a2 g, e7a8 g, sI 58 s.2.1], [(7, [], .dict (.ar 2 tI) tI s.2.2), e7a0 g w]⟩ : St)) (fun s X => VC7_l1 g w K s.1 s.2.1 s.2.2 X) (s0 := (((mget ([] : List (LI × Int)) [(g.1 + g.2.2.1), (0 : Int), (w.length : Int)]).getD (0 : Int)), (0 : Int), ([] : List (LI × Int)))) (fun s X1 h => ?_) h
       obtain ⟨n, v58, l7⟩ := s
       have h : VC7_l1 g w K n v58 l7 X1 := h
       unfold VC7_l1 at h
       refine srn 1 ⟨93, [sp 0 9, e7a6 g, e7a9, e7a5 w, sI 9 n, e7a2 g, e7a8 g, sI 58 v58, sB 59 (decide (v58 < (g.2.2.2.length : Int)))], [e7a7 l7, e7a0 g w]⟩ (by kernel_rfl) rfl ?_
       refine aw_seq ?_
       refine aw_cond (b := (decide (v58 < (g.2.2.2.length : Int)))) (by kernel_rfl) (fun hb => ?_) (fun hb => ?_)
       ·have h := h.1 hb
        refine aw_skip ?_
        refine thenQ_n ?_
        refine aw_seq ?_
        refine aw_block ?_
        refine sr ?_
        obtain ⟨o1, h⟩ := h
        refine rq 4 (ob := (inIdx v58 g.2.2.2.length ∧ Ts 3 True)) (st' := (⟨93, [sp 0 9, e7a6 g, e7a9, e7a5 w, sI 9 n, sp 12 12, e7a2 g, e7a8 g, sI 58 v58], [e7a7 l7, e7a0 g w, e7a11 g v58]⟩ : St)) (by kernel_rfl) (⟨o1, tsI 3 trivial⟩) ?_
        refine nn ?_
        refine aw_seq ?_
        refine awd_begin [] (by kernel_rfl) ?_
        obtain ⟨o1, h⟩ := h
        refine drq (by kernel_rfl) [0, 1, 2, 3, 4, 5, 6, 7, 8, 9] (ob := (Ts 8 (InR ((g.1 + g.2.2.1) - g.1) ∧ Ts 1 True))) (done' := [9, 8, 7, 6, 5, 4, 3, 2, 1, 0]) (st' := (⟨93, [sp 0 9, e7a6 g, e7a9, e7a5 w, sI 9 n, sp 12 12, e7a2 g, e7a8 g, sI 58 v58, sB 71 (decide ((g.2.2.2.getD (v58).toNat ((0 : Int), ([] : LI))).1 = ((g.1 + g.2.2.1) - g.1)))], [e7a7 l7, e7a0 g w, e7a11 g v58]⟩ : St)) (by kernel_rfl) (tsI 8 ⟨o1, tsI 1 trivial⟩) ?_
        refine awd_done (by kernel_rfl) ?_
        refine thenQ_n ?_
        refine withJoin (σ := Int × (List (LI × Int))) (fun s => (⟨93, [sp 0 70200, e7a6 g, e7a9, e7a5 w, sI 9 s.1, e7a2 g, e7a8 g, sI 58 v58], [e7a1 g w, (70201, [], .dict (.ar 2 tI) tI s.2)]⟩ : St)) (fun s => VC7_k4 v58 X1 s.1 s.2) (fun s h => ?_) (fun rest4 => ?_)
        ·obtain ⟨n2, l70201⟩ := s
         have h : VC7_k4 v58 X1 n2 l70201 := h
         unfold VC7_k4 at h
         refine blockQ_n ?_
         refine thenQ_n ?_
         refine aw_region ?_
         obtain ⟨o1, h⟩ := h
         refine rq 2 (ob := (InR (v58 + (1 : Int)) ∧ Ts 1 True)) (st' := (⟨93, [sp 0 70200, e7a6 g, e7a9, e7a5 w, sI 9 n2, e7a2 g, e7a8 g, sI 58 (v58 + (1 : Int))], [e7a1 g w, (70201, [], .dict (.ar 2 tI) tI l70201)]⟩ : St)) (by kernel_rfl) (⟨o1, tsI 1 trivial⟩) ?_
         refine awl_conv [.ren 70200 90200, .ren 70201 90201, .ren 90200 9, .ren 90201 7, .prune e7an0 [7, 9]] (st' := (⟨93, [sp 0 9, e7a6 g, e7a9, e7a5 w, sI 9 n2, e7a2 g, e7a8 g, sI 58 (v58 + (1 : Int))], [(7, [], .dict (.ar 2 tI) tI l70201), e7a0 g w]⟩ : St)) (by kernel_rfl) ?_
         refine awl_nil ?_
         exact thenQ_n ⟨(n2, (v58 + (1 : Int)), l70201), rfl, h⟩
        ·refine aw_cond (b := (decide ((g.2.2.2.getD (v58).toNat ((0 : Int), ([] : LI))).1 = ((g.1 + g.2.2.1) - g.1)))) (by kernel_rfl) (fun hb => ?_) (fun hb => ?_)
         ·have h := h.1 hb
          refine aw_region ?_
          refine rqT 6 ⟨93, [sp 0 9, e7a6 g, e7a9, e7a5 w, e7a2 g, e7a8 g, sI 58 v58, sI 72 n, sp 73 9, e7a13 g v58, sI 76 (0 : Int), sI 77 (w.length : Int)], [e7a7 l7, e7a0 g w]⟩ (by kernel_rfl) ?_
          refine awl_conv [.ren 9 70200, .ren 7 70201] (st' := (⟨93, [sp 0 70200, e7a6 g, e7a9, e7a5 w, e7a2 g, e7a8 g, sI 58 v58, sI 72 n, sp 73 70200, e7a13 g v58, sI 76 (0 : Int), sI 77 (w.length : Int)], [e7a14 l7, e7a1 g w]⟩ : St)) (by kernel_rfl) ?_
          refine awl_lcall (σ := Int × (List (LI × Int))) [70200, 70201] [70200] [.c (.ptr 70200 0), .c (.pS ((g.2.2.2.getD (v58).toNat ((0 : Int), ([] : LI))).2)), .c (.pI (0 : Int)), .c (.pI (w.length : Int))] [] (fun ret78v => .v (.c (.pI ret78v.1))) (fun ret78v => [e7a1 g w, e7a12 ret78v]) (_) [e7a1 g w, e7a14 l7] (fun ret78v => (⟨93, [sI 78 ret78v.1, sp 0 70200, e7a6 g, e7a9, e7a5 w, e7a2 g, e7a8 g, sI 58 v58, sI 72 n, sp 73 70200, e7a13 g v58, sI 76 (0 : Int), sI 77 (w.length : Int)], [e7a1 g w, e7a12 ret78v]⟩ : St)) rfl rfl (by kernel_rfl) rfl (by kernel_rfl) Try.call43 (by kernel_rfl) (by kernel_rfl) (by kernel_rfl) (fun _ _ => rfl) (fun _ => by kernel_rfl) (linkcr43 g.1 g.2.1 g.2.2.1 g.2.2.2 w ((g.2.2.2.getD (v58).toNat ((0 : Int), ([] : LI))).2) (0 : Int) (w.length : Int) l7 _ h) (fun ret78v h => ?_)
          refine lpr (st' := (⟨93, [sp 0 70200, e7a6 g, e7a9, e7a5 w, e7a2 g, e7a8 g, sI 58 v58, sI 72 n, sI 78 ret78v.1], [e7a1 g w, e7a12 ret78v]⟩ : St)) (by kernel_rfl) ?_
          obtain ⟨o1, h⟩ := h
          refine rq 2 (ob := (InR (n + ret78v.1) ∧ Ts 1 True)) (st' := (⟨93, [sp 0 70200, e7a6 g, e7a9, e7a5 w, sI 9 (n + ret78v.1), e7a2 g, e7a8 g, sI 58 v58], [e7a1 g w, e7a12 ret78v]⟩ : St)) (by kernel_rfl) (⟨o1, tsI 1 trivial⟩) ?_
          refine awl_nil ?_
          exact rest4 ((n + ret78v.1), ret78v.2) h
         ·have h := h.2 hb
          refine aw_conv [.prune e7an0 [7, 9], .ren 9 20009, .ren 7 20007, .ren 20009 70200, .ren 20007 70201, .prune e7an0 [70200, 70201]] (st' := (⟨93, [sp 0 70200, e7a6 g, e7a9, e7a5 w, sI 9 n, e7a2 g, e7a8 g, sI 58 v58], [e7a1 g w, e7a14 l7]⟩ : St)) (by kernel_rfl) ?_
          refine aw_skip ?_
          exact rest4 (n, l7) h
       ·have h := h.2 hb
        refine cpr (st' := (⟨93, [sp 0 9, e7a6 g, e7a9, e7a5 w, sI 9 n], [e7a7 l7, e7a0 g w]⟩ : St)) (by kernel_rfl) ?_
        refine aw_exit ?_
        refine thenQ_x ?_
        refine thenQ_x ?_
        refine blockQ_hit ?_
        exact rest3 (n, l7) h
-- coppicer/thicket.Sorted$1
def VC46 (k : Int) (a1 : Int) (K : Bool → Prop) : Prop :=
  K ((decide (k < (0 : Int))) || (decide (a1 ≤ k)))
set_option maxHeartbeats 4000000 in
theorem link46 (k : Int) (a1 : Int) (K : Bool → Prop) (h : VC46 k a1 K) : ACalls Try.prog 46 [toV1 tI k, .c (.ad tI a1)] (fun res => ∃ y, res = (fun y => [toV1 .bool y]) y ∧ K y) := by
 refine acalls_of_aw [.bool] [.t 3] Try.func46 rfl rfl rfl ?_
 unfold VC46 at h
 refine sr ?_
 refine rqT 1 ⟨11, [sI 0 k, s1 1 (.ad tI a1)], []⟩ (by kernel_rfl) ?_
 refine nsr ?_
 refine rq 8 (ob := (Ts 3 (Ti 3 ((decide (k < (0 : Int))) = false → True) (Ts 2 True)))) (st' := (⟨11, [sB 3 ((decide (k < (0 : Int))) || (decide (a1 ≤ k)))], []⟩ : St)) (by kernel_rfl) (tsI 3 (tiI 3 (fun _ => trivial) (tsI 2 trivial))) ?_
 refine nn ?_
 refine aw_ret ?_
 exact retQ_r (ob := Ts 1 True) _ (by kernel_rfl) (tsI 1 trivial) h
abbrev e23_0 (q0 : ((List (Int × (Int × (Int × LL)))) × Int)) : Nat × Path × Con := hB 70402 [.cl 47 [.pt 70400 0, .ad ⟨(.pr (.sl (.pr tI (.pr tI (.pr tI (.sl (.sl tI)))))) tI), q0⟩, .pt 70402 0, .pt 70403 0]]
abbrev e23_1 (q0 : ((List (Int × (Int × (Int × LL)))) × Int)) (i : Int) (v29 : Int) : Nat × Path × AV := sB 64 (decide ((0 : Int) < ((((q0.1.getD (i).toNat ((0 : Int), ((0 : Int), ((0 : Int), ([] : LL))))).2.2.2).getD (v29).toNat ([] : LI)).length : Int)))
abbrev e23_2 (q0 : ((List (Int × (Int × (Int × LL)))) × Int)) (i : Int) : Nat × Path × AV := s1 55 (.p (.sl (.sl tI)) ((q0.1.getD (i).toNat ((0 : Int), ((0 : Int), ((0 : Int), ([] : LL))))).2.2.2))
abbrev e23_3 (q0 : ((List (Int × (Int × (Int × LL)))) × Int)) (i : Int) (v29 : Int) : Nat × Path × AV := s1 0 (.pS ((((q0.1.getD (i).toNat ((0 : Int), ((0 : Int), ((0 : Int), ([] : LL))))).2.2.2).getD (v29).toNat ([] : LI)).drop ((1 : Int)).toNat))
abbrev e23_4 (q0 : ((List (Int × (Int × (Int × LL)))) × Int)) (i : Int) : Nat × Path × AV := s1 27 (.p (.sl (.sl tI)) ((q0.1.getD (i).toNat ((0 : Int), ((0 : Int), ((0 : Int), ([] : LL))))).2.2.2))
abbrev e23_5 (q0 : ((List (Int × (Int × (Int × LL)))) × Int)) (i : Int) : Nat × Path × AV := sI 56 (((q0.1.getD (i).toNat ((0 : Int), ((0 : Int), ((0 : Int), ([] : LL))))).2.2.2).length : Int)
abbrev e23_6 : Nat × Path × Con := hB 70400 [.own 70401]
abbrev e23_7 : Nat × Path × Con := hB 70403 [.own 70404]
abbrev e23_8 (q0 : ((List (Int × (Int × (Int × LL)))) × Int)) (i : Int) : Nat × Path × AV := sI 28 (((q0.1.getD (i).toNat ((0 : Int), ((0 : Int), ((0 : Int), ([] : LL))))).2.2.2).length : Int)
abbrev e23_9 (q0 : ((List (Int × (Int × (Int × LL)))) × Int)) (i : Int) (v29 : Int) : Nat × Path × AV := sI 7 (((((q0.1.getD (i).toNat ((0 : Int), ((0 : Int), ((0 : Int), ([] : LL))))).2.2.2).getD (v29).toNat ([] : LI)).drop ((1 : Int)).toNat).length : Int)
abbrev e23_10 (q0 : ((List (Int × (Int × (Int × LL)))) × Int)) (i : Int) (v29 : Int) : Nat × Path × AV := sI 15 (((((q0.1.getD (i).toNat ((0 : Int), ((0 : Int), ((0 : Int), ([] : LL))))).2.2.2).getD (v29).toNat ([] : LI)).drop ((1 : Int)).toNat).length : Int)
abbrev e23_11 (q0 : ((List (Int × (Int × (Int × LL)))) × Int)) (i : Int) (v29 : Int) : Nat × Path × AV := sB 72 (decide ((0 : Int) < ((((q0.1.getD (i).toNat ((0 : Int), ((0 : Int), ((0 : Int), ([] : LL))))).2.2.2).getD (v29).toNat ([] : LI)).length : Int)))
abbrev e23_12 (q0 : ((List (Int × (Int × (Int × LL)))) × Int)) (i : Int) (v29 : Int) : Nat × Path × AV := s1 8 (.pS ((((q0.1.getD (i).toNat ((0 : Int), ((0 : Int), ((0 : Int), ([] : LL))))).2.2.2).getD (v29).toNat ([] : LI)).drop ((1 : Int)).toNat))
abbrev e23_13 (q0 : ((List (Int × (Int × (Int × LL)))) × Int)) (i : Int) (v29 : Int) : Nat × Path × AV := sB 45 (decide ((0 : Int) < ((((q0.1.getD (i).toNat ((0 : Int), ((0 : Int), ((0 : Int), ([] : LL))))).2.2.2).getD (v29).toNat ([] : LI)).length : Int)))
abbrev e23_14 (q0 : ((List (Int × (Int × (Int × LL)))) × Int)) (i : Int) : Nat × Path × AV := s1 63 (.p (.sl (.sl tI)) ((q0.1.getD (i).toNat ((0 : Int), ((0 : Int), ((0 : Int), ([] : LL))))).2.2.2))
abbrev e23_15 (q0 : ((List (Int × (Int × (Int × LL)))) × Int)) (i : Int) : Nat × Path × AV := sI 64 (((q0.1.getD (i).toNat ((0 : Int), ((0 : Int), ((0 : Int), ([] : LL))))).2.2.2).length : Int)
abbrev e23_16 (q0 : ((List (Int × (Int × (Int × LL)))) × Int)) (i : Int) : Nat × Path × AV := s1 36 (.p (.sl (.sl tI)) ((q0.1.getD (i).toNat ((0 : Int), ((0 : Int), ((0 : Int), ([] : LL))))).2.2.2))
abbrev e23_17 (q0 : ((List (Int × (Int × (Int × LL)))) × Int)) (i : Int) : Nat × Path × AV := sI 37 (((q0.1.getD (i).toNat ((0 : Int), ((0 : Int), ((0 : Int), ([] : LL))))).2.2.2).length : Int)
abbrev e23_18 (l704012 : LI) : Nat × Path × Con := hA 70401 3 tI l704012
abbrev e23_19 (l704042 : LI) : Nat × Path × Con := hA 70404 3 tI l704042
abbrev e23_20 (q0 : ((List (Int × (Int × (Int × LL)))) × Int)) : Nat × Path × AV := s1 2 (.ad (.pr (.sl (.pr tI (.pr tI (.pr tI (.sl (.sl tI)))))) tI) q0)
abbrev e23_21 (q0 : ((List (Int × (Int × (Int × LL)))) × Int)) (i : Int) (v29 : Int) : Nat × Path × AV := sB 36 (decide ((0 : Int) < ((((q0.1.getD (i).toNat ((0 : Int), ((0 : Int), ((0 : Int), ([] : LL))))).2.2.2).getD (v29).toNat ([] : LI)).length : Int)))
abbrev e23_22 (l70404 : LI) : Nat × Path × Con := hA 70404 3 tI l70404
abbrev e23_23 (l70401 : LI) : Nat × Path × Con := hA 70401 3 tI l70401
abbrev e23_24 (q0 : ((List (Int × (Int × (Int × LL)))) × Int)) : Nat × Path × AV := s1 4 (.cl 47 [.pt 70400 0, .ad ⟨(.pr (.sl (.pr tI (.pr tI (.pr tI (.sl (.sl tI)))))) tI), q0⟩, .pt 70402 0, .pt 70403 0])
abbrev e23_25 (q0 : ((List (Int × (Int × (Int × LL)))) × Int)) (i : Int) (v29 : Int) (v8 : Int) : Nat × Path × AV := sI 0 (((((q0.1.getD (i).toNat ((0 : Int), ((0 : Int), ((0 : Int), ([] : LL))))).2.2.2).getD (v29).toNat ([] : LI)).drop ((1 : Int)).toNat).getD (v8).toNat (0 : Int))
abbrev e23_26 (q0 : ((List (Int × (Int × (Int × LL)))) × Int)) (i : Int) (v29 : Int) (v8 : Int) : Nat × Path × AV := sI 5 (((((q0.1.getD (i).toNat ((0 : Int), ((0 : Int), ((0 : Int), ([] : LL))))).2.2.2).getD (v29).toNat ([] : LI)).drop ((1 : Int)).toNat).getD (v8).toNat (0 : Int))
abbrev e23_27 : Nat × Path × AV := s1 1 (.cl 48 [.pt 70402 0])
abbrev e23_28 : Nat × Path × AV := sp 50 70400
abbrev e23_29 : Nat × Path × AV := sp 51 70402
abbrev e23_30 : Nat × Path × AV := sp 52 70403
abbrev e23_31 (c1 : LI) : Nat × Path × Con := hA 70404 3 tI c1
abbrev e23_32 (l70401 : LI) (i : Int) : Nat × Path × Con := hA 70401 3 tI (l70401.set ((i).toNat) (2 : Int))
abbrev e23_33 (ret6v : Bool × LI × LI) : Nat × Path × Con := hA 70401 3 tI ret6v.2.1
abbrev e23_34 (ret6v : Bool × LI × LI) : Nat × Path × Con := hA 70404 3 tI ret6v.2.2
abbrev e23_35 : Nat × Path × AV := sp 4 70403
abbrev e23_36 (c0 : LI) : Nat × Path × Con := hA 70401 3 tI c0
abbrev e23_37 : Nat × Path × AV := sp 1 70400
abbrev e23_38 : Nat × Path × AV := sp 3 70402
abbrev e23_39 : Nat × Path × AV := s1 9 (.cl 48 [.pt 70402 0])
abbrev e23_40 : Nat × Path × AV := sp 29 70400
abbrev e23_41 : Nat × Path × AV := sp 31 70402
abbrev e23_42 : Nat × Path × AV := sp 32 70403
abbrev e23_43 : Nat × Path × AV := sp 78 70400
abbrev e23_44 : Nat × Path × AV := sp 79 70402
abbrev e23_45 : Nat × Path × AV := sp 80 70403
abbrev e23_n0 : List Nat := [70400, 70401, 70402, 70403, 70404]
-- coppicer/thicket.Sorted$2
def VCc47_k1 (i : Int) (K : Bool × LI × LI → Prop) (l70401 : LI) (l70404 : LI) : Prop :=
  (inIdx i l70401.length ∧ (roomN (l70404.length + [i].length) ∧ K (true, (l70401.set ((i).toNat) (2 : Int)), (l70404 ++ [i]))))
def VCc47_k2 (v29 : Int) (X1 : Int × LI × LI → Prop) (l704012 : LI) (l704042 : LI) : Prop :=
  (InR (v29 + (1 : Int)) ∧ X1 ((v29 + (1 : Int)), l704012, l704042))
def VCc47_k3 (q0 : ((List (Int × (Int × (Int × LL)))) × Int)) (i : Int) (K : Bool × LI × LI → Prop) (v29 : Int) (X1 : Int × LI × LI → Prop) (v4 : Int) (l704012 : LI) (l704042 : LI) : Prop :=
  ((((decide ((0 : Int) < ((((q0.1.getD (i).toNat ((0 : Int), ((0 : Int), ((0 : Int), ([] : LL))))).2.2.2).getD (v29).toNat ([] : LI)).length : Int))) && (decide ((0 : Int) ≤ v4))) = true → K (false, l704012, l704042)) ∧ (((decide ((0 : Int) < ((((q0.1.getD (i).toNat ((0 : Int), ((0 : Int), ((0 : Int), ([] : LL))))).2.2.2).getD (v29).toNat ([] : LI)).length : Int))) && (decide ((0 : Int) ≤ v4))) = false → VCc47_k2 v29 X1 l704012 l704042))
def VCc47_k4 (q0 : ((List (Int × (Int × (Int × LL)))) × Int)) (i : Int) (K : Bool × LI × LI → Prop) (v29 : Int) (X1 : Int × LI × LI → Prop) (l704012 : LI) (l704042 : LI) : Prop :=
  VCc47_k3 q0 i K v29 X1 (-1 : Int) l704012 l704042
def VCc47_l2 (q0 : ((List (Int × (Int × (Int × LL)))) × Int)) (R : Int → LI → LI → (Bool × LI × LI → Prop) → Prop) (i : Int) (K : Bool × LI × LI → Prop) (v29 : Int) (X1 : Int × LI × LI → Prop) (v8 : Int) (l704012 : LI) (l704042 : LI) (X2 : Int × LI × LI → Prop) : Prop :=
  (((decide (v8 < (((((q0.1.getD (i).toNat ((0 : Int), ((0 : Int), ((0 : Int), ([] : LL))))).2.2.2).getD (v29).toNat ([] : LI)).drop ((1 : Int)).toNat).length : Int))) = true → (inIdx v8 ((((q0.1.getD (i).toNat ((0 : Int), ((0 : Int), ((0 : Int), ([] : LL))))).2.2.2).getD (v29).toNat ([] : LI)).drop ((1 : Int)).toNat).length ∧ R (((((q0.1.getD (i).toNat ((0 : Int), ((0 : Int), ((0 : Int), ([] : LL))))).2.2.2).getD (v29).toNat ([] : LI)).drop ((1 : Int)).toNat).getD (v8).toNat (0 : Int)) l704012 l704042 (fun (ret6v : Bool × LI × LI) => (((!ret6v.1) = true → VCc47_k3 q0 i K v29 X1 v8 ret6v.2.1 ret6v.2.2) ∧ ((!ret6v.1) = false → (InR (v8 + (1 : Int)) ∧ X2 ((v8 + (1 : Int)), ret6v.2.1, ret6v.2.2))))))) ∧ ((decide (v8 < (((((q0.1.getD (i).toNat ((0 : Int), ((0 : Int), ((0 : Int), ([] : LL))))).2.2.2).getD (v29).toNat ([] : LI)).drop ((1 : Int)).toNat).length : Int))) = false → VCc47_k4 q0 i K v29 X1 l704012 l704042))
def VCc47_l1 (q0 : ((List (Int × (Int × (Int × LL)))) × Int)) (R : Int → LI → LI → (Bool × LI × LI → Prop) → Prop) (i : Int) (K : Bool × LI × LI → Prop) (v29 : Int) (l70401 : LI) (l70404 : LI) (X1 : Int × LI × LI → Prop) : Prop :=
  (((decide (v29 < (((q0.1.getD (i).toNat ((0 : Int), ((0 : Int), ((0 : Int), ([] : LL))))).2.2.2).length : Int))) = true → (inIdx v29 ((q0.1.getD (i).toNat ((0 : Int), ((0 : Int), ((0 : Int), ([] : LL))))).2.2.2).length ∧ (((decide ((0 : Int) < ((((q0.1.getD (i).toNat ((0 : Int), ((0 : Int), ((0 : Int), ([] : LL))))).2.2.2).getD (v29).toNat ([] : LI)).length : Int))) = true → (0 ≤ (1 : Int) ∧ (1 : Int) ≤ ((((q0.1.getD (i).toNat ((0 : Int), ((0 : Int), ((0 : Int), ([] : LL))))).2.2.2).getD (v29).toNat ([] : LI)).length : Int))) ∧ (((decide ((0 : Int) < ((((q0.1.getD (i).toNat ((0 : Int), ((0 : Int), ((0 : Int), ([] : LL))))).2.2.2).getD (v29).toNat ([] : LI)).length : Int))) = true → Loop (σ := Int × LI × LI) (fun s X => VCc47_l2 q0 R i K v29 X1 s.1 s.2.1 s.2.2 X) ((0 : Int), l70401, l70404)) ∧ ((decide ((0 : Int) < ((((q0.1.getD (i).toNat ((0 : Int), ((0 : Int), ((0 : Int), ([] : LL))))).2.2.2).getD (v29).toNat ([] : LI)).length : Int))) = false → ((((decide ((0 : Int) < ((((q0.1.getD (i).toNat ((0 : Int), ((0 : Int), ((0 : Int), ([] : LL))))).2.2.2).getD (v29).toNat ([] : LI)).length : Int))) && false) = true → K (false, l70401, l70404)) ∧ (((decide ((0 : Int) < ((((q0.1.getD (i).toNat ((0 : Int), ((0 : Int), ((0 : Int), ([] : LL))))).2.2.2).getD (v29).toNat ([] : LI)).length : Int))) && false) = false → VCc47_k2 v29 X1 l70401 l70404))))))) ∧ ((decide (v29 < (((q0.1.getD (i).toNat ((0 : Int), ((0 : Int), ((0 : Int), ([] : LL))))).2.2.2).length : Int))) = false → VCc47_k1 i K l70401 l70404))
def VCc47 (q0 : ((List (Int × (Int × (Int × LL)))) × Int)) (R : Int → LI → LI → (Bool × LI × LI → Prop) → Prop) (i : Int) (c0 : LI) (c1 : LI) (K : Bool × LI × LI → Prop) : Prop :=
  (inIdx i c0.length ∧ (((decide ((0 : Int) < (c0.getD ((i).toNat) (0 : Int)))) = true → (inIdx i c0.length ∧ K ((decide ((c0.getD ((i).toNat) (0 : Int)) = (2 : Int))), c0, c1))) ∧ ((decide ((0 : Int) < (c0.getD ((i).toNat) (0 : Int)))) = false → (inIdx i c0.length ∧ (inIdx i q0.1.length ∧ Loop (σ := Int × LI × LI) (fun s X => VCc47_l1 q0 R i K s.1 s.2.1 s.2.2 X) ((0 : Int), (c0.set ((i).toNat) (1 : Int)), c1))))))
set_option maxHeartbeats 4000000 in
theorem linkc47 (q0 : ((List (Int × (Int × (Int × LL)))) × Int)) (R : Int → LI → LI → (Bool × LI × LI → Prop) → Prop) (hR : ∀ (i : Int) (c0 : LI) (c1 : LI) (K : Bool × LI × LI → Prop), R i c0 c1 K → LCalls Try.prog 47 e23_n0 [70400, 70402, 70403] [e23_6, e23_36 c0, e23_0 q0, e23_7, e23_31 c1] [.c (.pI i), .c (.ptr 70400 0), .c (.ad (.pr (.sl (.pr tI (.pr tI (.pr tI (.sl (.sl tI)))))) tI) q0), .c (.ptr 70402 0), .c (.ptr 70403 0)] (fun av hp' => ∃ y : Bool × LI × LI, av = .v (.c (.pB y.1)) ∧ hp' = [e23_6, hA 70401 3 tI y.2.1, e23_0 q0, e23_7, hA 70404 3 tI y.2.2] ∧ K y)) (i : Int) (c0 : LI) (c1 : LI) (K : Bool × LI × LI → Prop) (h : VCc47 q0 R i c0 c1 K) : LCalls Try.prog 47 e23_n0 [70400, 70402, 70403] [e23_6, e23_36 c0, e23_0 q0, e23_7, e23_31 c1] [.c (.pI i), .c (.ptr 70400 0), .c (.ad (.pr (.sl (.pr tI (.pr tI (.pr tI (.sl (.sl tI)))))) tI) q0), .c (.ptr 70402 0), .c (.ptr 70403 0)] (fun av hp' => ∃ y : Bool × LI × LI, av = .v (.c (.pB y.1)) ∧ hp' = [e23_6, hA 70401 3 tI y.2.1, e23_0 q0, e23_7, hA 70404 3 tI y.2.2] ∧ K y) := by
 refine lcalls_of_aw e23_n0 [70400, 70402, 70403] [.t 6] Try.func47 rfl rfl (by kernel_rfl) (by kernel_rfl) (by kernel_rfl) ?_
 refine aw_conv [] (st' := (⟨50, [sI 0 i, e23_37, e23_20 q0, e23_38, e23_35, e23_28, e23_29, e23_30], [e23_6, e23_36 c0, e23_0 q0, e23_7, e23_31 c1]⟩ : St)) (by kernel_rfl) ?_
 unfold VCc47 at h
 refine srn 1 ⟨50, [sI 0 i, e23_37, e23_20 q0, e23_38, e23_35, e23_28, e23_29, e23_30], [e23_6, e23_36 c0, e23_0 q0, e23_7, e23_31 c1]⟩ (by kernel_rfl) rfl ?_
 refine aw_seq ?_
 refine sr ?_
 obtain ⟨o1, h⟩ := h
 refine rq 5 (ob := (Ts 2 (inIdx i c0.length ∧ Ts 2 True))) (st' := (⟨50, [sI 0 i, e23_37, e23_20 q0, e23_38, e23_35, sB 13 (decide ((0 : Int) < (c0.getD ((i).toNat) (0 : Int)))), e23_28, e23_29, e23_30], [e23_6, e23_36 c0, e23_0 q0, e23_7, e23_31 c1]⟩ : St)) (by kernel_rfl) (tsI 2 ⟨o1, tsI 2 trivial⟩) ?_
 refine nn ?_
 refine aw_cond (b := (decide ((0 : Int) < (c0.getD ((i).toNat) (0 : Int))))) (by kernel_rfl) (fun hb => ?_) (fun hb => ?_)
 ·have h := h.1 hb
  refine sr ?_
  obtain ⟨o1, h⟩ := h
  refine rq 6 (ob := (Ts 2 (inIdx i c0.length ∧ Ts 3 True))) (st' := (⟨50, [sB 6 (decide ((c0.getD ((i).toNat) (0 : Int)) = (2 : Int))), e23_28, e23_29, e23_30], [e23_6, e23_36 c0, e23_0 q0, e23_7, e23_31 c1]⟩ : St)) (by kernel_rfl) (tsI 2 ⟨o1, tsI 3 trivial⟩) ?_
  refine nn ?_
  refine aw_ret ?_
  refine thenQ_r ?_
  exact lret_r (σ := Bool × LI × LI) (A := fun y => .v (.c (.pB y.1))) (H := fun y => [e23_6, hA 70401 3 tI y.2.1, e23_0 q0, e23_7, hA 70404 3 tI y.2.2]) (ob := True) ((decide ((c0.getD ((i).toNat) (0 : Int)) = (2 : Int))), c0, c1) (by kernel_rfl) trivial rfl (by kernel_rfl) (by kernel_rfl) (by kernel_rfl) h
 ·have h := h.2 hb
  refine aw_skip ?_
  refine thenQ_n ?_
  refine sr ?_
  obtain ⟨o1, h⟩ := h
  refine rq 4 (ob := (Ts 2 (inIdx i c0.length ∧ Ts 1 True))) (st' := (⟨50, [sI 0 i, e23_37, e23_20 q0, e23_38, e23_35, e23_28, e23_29, e23_30], [e23_6, hA 70401 3 tI (c0.set ((i).toNat) (1 : Int)), e23_0 q0, e23_7, e23_31 c1]⟩ : St)) (by kernel_rfl) (tsI 2 ⟨o1, tsI 1 trivial⟩) ?_
  refine nn ?_
  refine aw_seq ?_
  refine sr ?_
  obtain ⟨o1, h⟩ := h
  refine rq 8 (ob := (Ts 3 (inIdx i q0.1.length ∧ Ts 4 True))) (st' := (⟨50, [sI 0 i, e23_37, e23_38, e23_35, e23_4 q0 i, e23_8 q0 i, sI 29 (0 : Int), e23_28, e23_29, e23_30], [e23_6, hA 70401 3 tI (c0.set ((i).toNat) (1 : Int)), e23_0 q0, e23_7, e23_31 c1]⟩ : St)) (by kernel_rfl) (tsI 3 ⟨o1, tsI 4 trivial⟩) ?_
  refine nn ?_
  refine withJoin (σ := LI × LI) (fun s => (⟨50, [sI 0 i, e23_37, e23_35, e23_28, e23_29, e23_30], [e23_6, hA 70401 3 tI s.1, e23_0 q0, e23_7, hA 70404 3 tI s.2]⟩ : St)) (fun s => VCc47_k1 i K s.1 s.2) (fun s h => ?_) (fun rest1 => ?_)
  ·obtain ⟨l70401, l70404⟩ := s
   have h : VCc47_k1 i K l70401 l70404 := h
   unfold VCc47_k1 at h
   refine thenQ_n ?_
   refine sr ?_
   obtain ⟨o1, h⟩ := h
   refine rq 4 (ob := (Ts 2 (inIdx i l70401.length ∧ Ts 1 True))) (st' := (⟨50, [sI 0 i, e23_35, e23_28, e23_29, e23_30], [e23_6, e23_32 l70401 i, e23_0 q0, e23_7, e23_22 l70404]⟩ : St)) (by kernel_rfl) (tsI 2 ⟨o1, tsI 1 trivial⟩) ?_
   refine nsr ?_
   obtain ⟨o1, h⟩ := h
   refine rq 5 (ob := (Ts 3 (roomN (l70404.length + [i].length) ∧ Ts 1 True))) (st' := (⟨50, [e23_28, e23_29, e23_30], [hA 49 3 tI (l70404 ++ [i]), e23_6, e23_32 l70401 i, e23_0 q0, hB 70403 [.own 49]]⟩ : St)) (by kernel_rfl) (tsI 3 ⟨o1, tsI 1 trivial⟩) ?_
   refine nsr ?_
   refine rqT 1 ⟨50, [sB 6 true, e23_28, e23_29, e23_30], [hA 49 3 tI (l70404 ++ [i]), e23_6, e23_32 l70401 i, e23_0 q0, hB 70403 [.own 49]]⟩ (by kernel_rfl) ?_
   refine nn ?_
   refine aw_conv [.ren 49 70404, .prune [6, 50, 51, 52] e23_n0] (st' := (⟨50, [sB 6 true, e23_28, e23_29, e23_30], [e23_6, e23_32 l70401 i, e23_0 q0, e23_7, hA 70404 3 tI (l70404 ++ [i])]⟩ : St)) (by kernel_rfl) ?_
   refine aw_ret ?_
   exact lret_r (σ := Bool × LI × LI) (A := fun y => .v (.c (.pB y.1))) (H := fun y => [e23_6, hA 70401 3 tI y.2.1, e23_0 q0, e23_7, hA 70404 3 tI y.2.2]) (ob := True) (true, (l70401.set ((i).toNat) (2 : Int)), (l70404 ++ [i])) (by kernel_rfl) trivial rfl (by kernel_rfl) (by kernel_rfl) (by kernel_rfl) h
  ·refine aw_block ?_
   refine aw_loop (σ := Int × LI × LI) (fun s => (⟨50, [sI 0 i, e23_37, e23_38, e23_35, e23_4 q0 i, e23_8 q0 i, sI 29 s.1, e23_28, e23_29, e23_30], [e23_6, hA 70401 3 tI s.2.1, e23_0 q0, e23_7, hA 70404 3 tI s.2.2]⟩ : St)) (fun s X => VCc47_l1 q0 R i K s.1 s.2.1 s.2.2 X) (s0 := ((0 : Int), (c0.set ((i).toNat) (1 : Int)), c1)) (fun s X1 h => ?_) h
   obtain ⟨v29, l70401, l70404⟩ := s
   have h : VCc47_l1 q0 R i K v29 l70401 l70404 X1 := h
   unfold VCc47_l1 at h
   refine srn 1 ⟨50, [sI 0 i, e23_37, e23_38, e23_35, e23_4 q0 i, e23_8 q0 i, sI 29 v29, sB 30 (decide (v29 < (((q0.1.getD (i).toNat ((0 : Int), ((0 : Int), ((0 : Int), ([] : LL))))).2.2.2).length : Int))), e23_28, e23_29, e23_30], [e23_6, e23_23 l70401, e23_0 q0, e23_7, e23_22 l70404]⟩ (by kernel_rfl) rfl ?_
   refine aw_seq ?_
   refine aw_cond (b := (decide (v29 < (((q0.1.getD (i).toNat ((0 : Int), ((0 : Int), ((0 : Int), ([] : LL))))).2.2.2).length : Int)))) (by kernel_rfl) (fun hb => ?_) (fun hb => ?_)
   ·have h := h.1 hb
    refine aw_skip ?_
    refine thenQ_n ?_
    refine aw_seq ?_
    refine withJoin (σ := LI × LI) (fun s => (⟨50, [sI 0 i, e23_37, e23_38, e23_35, e23_4 q0 i, e23_8 q0 i, sI 29 v29, e23_28, e23_29, e23_30], [e23_6, hA 70401 3 tI s.1, e23_0 q0, e23_7, hA 70404 3 tI s.2]⟩ : St)) (fun s => VCc47_k2 v29 X1 s.1 s.2) (fun s h => ?_) (fun rest2 => ?_)
    ·obtain ⟨l704012, l704042⟩ := s
     have h : VCc47_k2 v29 X1 l704012 l704042 := h
     unfold VCc47_k2 at h
     refine thenQ_n ?_
     refine aw_region ?_
     obtain ⟨o1, h⟩ := h
     refine rq 2 (ob := (InR (v29 + (1 : Int)) ∧ Ts 1 True)) (st' := (⟨50, [sI 0 i, e23_37, e23_38, e23_35, e23_4 q0 i, e23_8 q0 i, sI 29 (v29 + (1 : Int)), e23_28, e23_29, e23_30], [e23_6, e23_18 l704012, e23_0 q0, e23_7, e23_19 l704042]⟩ : St)) (by kernel_rfl) (⟨o1, tsI 1 trivial⟩) ?_
     refine awl_nil ?_
     exact thenQ_n ⟨((v29 + (1 : Int)), l704012, l704042), rfl, h⟩
    ·refine aw_block ?_
     refine sr ?_
     obtain ⟨o1, h⟩ := h
     refine rq 3 (ob := (inIdx v29 ((q0.1.getD (i).toNat ((0 : Int), ((0 : Int), ((0 : Int), ([] : LL))))).2.2.2).length ∧ Ts 2 True)) (st' := (⟨50, [sI 0 i, e23_37, e23_38, e23_35, s1 8 (.pS (((q0.1.getD (i).toNat ((0 : Int), ((0 : Int), ((0 : Int), ([] : LL))))).2.2.2).getD (v29).toNat ([] : LI))), e23_4 q0 i, e23_8 q0 i, sI 29 v29, e23_28, e23_29, e23_30], [e23_6, e23_23 l70401, e23_0 q0, e23_7, e23_22 l70404]⟩ : St)) (by kernel_rfl) (⟨o1, tsI 2 trivial⟩) ?_
     refine nsr ?_
     obtain ⟨o1, h⟩ := h
     refine rq 7 (ob := (Ts 4 (((decide ((0 : Int) < ((((q0.1.getD (i).toNat ((0 : Int), ((0 : Int), ((0 : Int), ([] : LL))))).2.2.2).getD (v29).toNat ([] : LI)).length : Int))) = true → True) ∧ ((decide ((0 : Int) < ((((q0.1.getD (i).toNat ((0 : Int), ((0 : Int), ((0 : Int), ([] : LL))))).2.2.2).getD (v29).toNat ([] : LI)).length : Int))) = true → (0 ≤ (1 : Int) ∧ (1 : Int) ≤ ((((q0.1.getD (i).toNat ((0 : Int), ((0 : Int), ((0 : Int), ([] : LL))))).2.2.2).getD (v29).toNat ([] : LI)).length : Int))) ∧ ((decide ((0 : Int) < ((((q0.1.getD (i).toNat ((0 : Int), ((0 : Int), ((0 : Int), ([] : LL))))).2.2.2).getD (v29).toNat ([] : LI)).length : Int))) = true → True) ∧ True))) (st' := (⟨50, [sI 0 i, e23_37, e23_38, e23_35, e23_4 q0 i, e23_8 q0 i, sI 29 v29, e23_21 q0 i v29, (38, [(36, true)], .v (.c (.pS ((((q0.1.getD (i).toNat ((0 : Int), ((0 : Int), ((0 : Int), ([] : LL))))).2.2.2).getD (v29).toNat ([] : LI)).drop ((1 : Int)).toNat)))), (39, [(36, true)], .v (.c (.cl 48 [.pt 70402 0]))), e23_28, e23_29, e23_30], [e23_6, e23_23 l70401, e23_0 q0, e23_7, e23_22 l70404]⟩ : St)) (by kernel_rfl) (tsI 4 (⟨(fun _ => trivial), ⟨o1, ⟨(fun _ => trivial), trivial⟩⟩⟩)) ?_
     refine awl_inlg [.t 4] e23_n0 [(36, true)] [.c (.pS ((((q0.1.getD (i).toNat ((0 : Int), ((0 : Int), ((0 : Int), ([] : LL))))).2.2.2).getD (v29).toNat ([] : LI)).drop ((1 : Int)).toNat)), .c (.cl 48 [.pt 70402 0])] [] (.v (.c (.pB false))) (by kernel_rfl) rfl (by kernel_rfl) rfl (by kernel_rfl) Try.call27 (by kernel_rfl) (by kernel_rfl) Try.func27 rfl rfl (by kernel_rfl) (fun hb => ?_) (fun hb => ?_)
     ·have h := h.1 hb
      refine aw_conv [] (st' := (⟨9, [e23_3 q0 i v29, e23_27, sI 9 i, sp 10 70400, sp 12 70402, sp 13 70403, e23_16 q0 i, e23_17 q0 i, sI 38 v29, e23_13 q0 i v29, s1 47 (.pS ((((q0.1.getD (i).toNat ((0 : Int), ((0 : Int), ((0 : Int), ([] : LL))))).2.2.2).getD (v29).toNat ([] : LI)).drop ((1 : Int)).toNat)), s1 48 (.cl 48 [.pt 70402 0]), sp 59 70400, sp 60 70402, sp 61 70403], [e23_6, e23_23 l70401, e23_0 q0, e23_7, e23_22 l70404]⟩ : St)) (by kernel_rfl) ?_
      refine sr ?_
      refine rqT 1 ⟨9, [e23_3 q0 i v29, e23_27, sI 9 i, sp 10 70400, sp 12 70402, sp 13 70403, e23_16 q0 i, e23_17 q0 i, sI 38 v29, e23_13 q0 i v29, sp 59 70400, sp 60 70402, sp 61 70403], [e23_6, e23_23 l70401, e23_0 q0, e23_7, e23_22 l70404]⟩ (by kernel_rfl) ?_
      refine nsr ?_
      refine rqT 2 ⟨9, [s1 5 (.pS ((((q0.1.getD (i).toNat ((0 : Int), ((0 : Int), ((0 : Int), ([] : LL))))).2.2.2).getD (v29).toNat ([] : LI)).drop ((1 : Int)).toNat)), s1 6 (.cl 48 [.pt 70402 0]), sI 9 i, sp 10 70400, sp 12 70402, sp 13 70403, e23_16 q0 i, e23_17 q0 i, sI 38 v29, e23_13 q0 i v29, sp 59 70400, sp 60 70402, sp 61 70403], [e23_6, e23_23 l70401, e23_0 q0, e23_7, e23_22 l70404]⟩ (by kernel_rfl) ?_
      refine awl_inlr [.t 4] e23_n0 [.c (.pS ((((q0.1.getD (i).toNat ((0 : Int), ((0 : Int), ((0 : Int), ([] : LL))))).2.2.2).getD (v29).toNat ([] : LI)).drop ((1 : Int)).toNat)), .c (.cl 48 [.pt 70402 0])] [] rfl rfl (by kernel_rfl) rfl (by kernel_rfl) Try.call52 (by kernel_rfl) (by kernel_rfl) Try.func52 rfl rfl (by kernel_rfl) ?_
      refine aw_conv [] (st' := (⟨19, [e23_3 q0 i v29, e23_27, s1 24 (.pS ((((q0.1.getD (i).toNat ((0 : Int), ((0 : Int), ((0 : Int), ([] : LL))))).2.2.2).getD (v29).toNat ([] : LI)).drop ((1 : Int)).toNat)), s1 25 (.cl 48 [.pt 70402 0]), sI 28 i, e23_40, e23_41, e23_42, e23_2 q0 i, e23_5 q0 i, sI 57 v29, e23_1 q0 i v29, e23_43, e23_44, e23_45], [e23_6, e23_23 l70401, e23_0 q0, e23_7, e23_22 l70404]⟩ : St)) (by kernel_rfl) ?_
      refine withJoinR (σ := Int × LI × LI) (fun s => (⟨19, [sI 4 s.1, sI 28 i, e23_40, e23_41, e23_42, e23_2 q0 i, e23_5 q0 i, sI 57 v29, e23_1 q0 i v29, e23_43, e23_44, e23_45], [e23_6, hA 70401 3 tI s.2.1, e23_0 q0, e23_7, hA 70404 3 tI s.2.2]⟩ : St)) (fun s => VCc47_k3 q0 i K v29 X1 s.1 s.2.1 s.2.2) (fun s h => ?_) (fun rest3 => ?_)
      ·obtain ⟨v4, l704012, l704042⟩ := s
       have h : VCc47_k3 q0 i K v29 X1 v4 l704012 l704042 := h
       unfold VCc47_k3 at h
       refine inlR_n (ob := True) (.v (.c (.pI v4))) (by kernel_rfl) trivial rfl ?_
       refine lpr (st' := (⟨9, [sI 7 v4, sI 9 i, sp 10 70400, sp 12 70402, sp 13 70403, e23_16 q0 i, e23_17 q0 i, sI 38 v29, e23_13 q0 i v29, sp 59 70400, sp 60 70402, sp 61 70403], [e23_6, e23_18 l704012, e23_0 q0, e23_7, e23_19 l704042]⟩ : St)) (by kernel_rfl) ?_
       refine rqT 2 ⟨9, [sB 4 (decide ((0 : Int) ≤ v4)), sI 9 i, sp 10 70400, sp 12 70402, sp 13 70403, e23_16 q0 i, e23_17 q0 i, sI 38 v29, e23_13 q0 i v29, sp 59 70400, sp 60 70402, sp 61 70403], [e23_6, e23_18 l704012, e23_0 q0, e23_7, e23_19 l704042]⟩ (by kernel_rfl) ?_
       refine nn ?_
       refine aw_ret ?_
       refine inlR_r (ob := True) (.v (.c (.pB (decide ((0 : Int) ≤ v4))))) (by kernel_rfl) trivial rfl ?_
       refine lpr (st' := (⟨50, [sI 0 i, e23_37, e23_38, e23_35, e23_4 q0 i, e23_8 q0 i, sI 29 v29, e23_21 q0 i v29, sB 40 (decide ((0 : Int) ≤ v4)), e23_28, e23_29, e23_30], [e23_6, e23_18 l704012, e23_0 q0, e23_7, e23_19 l704042]⟩ : St)) (by kernel_rfl) ?_
       refine rqT 1 ⟨50, [sI 0 i, e23_37, e23_38, e23_35, e23_4 q0 i, e23_8 q0 i, sI 29 v29, sB 41 ((decide ((0 : Int) < ((((q0.1.getD (i).toNat ((0 : Int), ((0 : Int), ((0 : Int), ([] : LL))))).2.2.2).getD (v29).toNat ([] : LI)).length : Int))) && (decide ((0 : Int) ≤ v4))), e23_28, e23_29, e23_30], [e23_6, e23_18 l704012, e23_0 q0, e23_7, e23_19 l704042]⟩ (by kernel_rfl) ?_
       refine nn ?_
       refine aw_cond (b := ((decide ((0 : Int) < ((((q0.1.getD (i).toNat ((0 : Int), ((0 : Int), ((0 : Int), ([] : LL))))).2.2.2).getD (v29).toNat ([] : LI)).length : Int))) && (decide ((0 : Int) ≤ v4)))) (by kernel_rfl) (fun hb => ?_) (fun hb => ?_)
       ·have h := h.1 hb
        refine srn 1 ⟨50, [sB 6 false, e23_28, e23_29, e23_30], [e23_6, e23_18 l704012, e23_0 q0, e23_7, e23_19 l704042]⟩ (by kernel_rfl) rfl ?_
        refine aw_ret ?_
        refine blockQ_r ?_
        refine thenQ_r ?_
        refine thenQ_r ?_
        refine blockQ_r ?_
        refine thenQ_r ?_
        exact lret_r (σ := Bool × LI × LI) (A := fun y => .v (.c (.pB y.1))) (H := fun y => [e23_6, hA 70401 3 tI y.2.1, e23_0 q0, e23_7, hA 70404 3 tI y.2.2]) (ob := True) (false, l704012, l704042) (by kernel_rfl) trivial rfl (by kernel_rfl) (by kernel_rfl) (by kernel_rfl) h
       ·have h := h.2 hb
        refine cpr (st' := (⟨50, [sI 0 i, e23_37, e23_38, e23_35, e23_4 q0 i, e23_8 q0 i, sI 29 v29, e23_28, e23_29, e23_30], [e23_6, e23_18 l704012, e23_0 q0, e23_7, e23_19 l704042]⟩ : St)) (by kernel_rfl) ?_
        refine aw_skip ?_
        refine blockQ_n ?_
        exact rest2 (l704012, l704042) h
      ·refine srn 1 ⟨19, [e23_3 q0 i v29, e23_27, sI 28 i, e23_40, e23_41, e23_42, e23_2 q0 i, e23_5 q0 i, sI 57 v29, e23_1 q0 i v29, e23_43, e23_44, e23_45], [e23_6, e23_23 l70401, e23_0 q0, e23_7, e23_22 l70404]⟩ (by kernel_rfl) rfl ?_
       refine aw_seq ?_
       refine srn 3 ⟨19, [e23_3 q0 i v29, e23_27, e23_9 q0 i v29, sI 8 (0 : Int), sI 28 i, e23_40, e23_41, e23_42, e23_2 q0 i, e23_5 q0 i, sI 57 v29, e23_1 q0 i v29, e23_43, e23_44, e23_45], [e23_6, e23_23 l70401, e23_0 q0, e23_7, e23_22 l70404]⟩ (by kernel_rfl) rfl ?_
       refine withJoin (σ := LI × LI) (fun s => (⟨19, [sI 28 i, e23_40, e23_41, e23_42, e23_2 q0 i, e23_5 q0 i, sI 57 v29, e23_1 q0 i v29, e23_43, e23_44, e23_45], [e23_6, hA 70401 3 tI s.1, e23_0 q0, e23_7, hA 70404 3 tI s.2]⟩ : St)) (fun s => VCc47_k4 q0 i K v29 X1 s.1 s.2) (fun s h => ?_) (fun rest4 => ?_)
       ·obtain ⟨l704012, l704042⟩ := s
        have h : VCc47_k4 q0 i K v29 X1 l704012 l704042 := h
        unfold VCc47_k4 at h
        refine thenQ_n ?_
        refine srn 1 ⟨19, [sI 4 (-1 : Int), sI 28 i, e23_40, e23_41, e23_42, e23_2 q0 i, e23_5 q0 i, sI 57 v29, e23_1 q0 i v29, e23_43, e23_44, e23_45], [e23_6, e23_18 l704012, e23_0 q0, e23_7, e23_19 l704042]⟩ (by kernel_rfl) rfl ?_
        refine aw_ret ?_
        exact rest3 ((-1 : Int), l704012, l704042) h
       ·refine aw_block ?_
        refine aw_loop (σ := Int × LI × LI) (fun s => (⟨19, [e23_3 q0 i v29, e23_27, e23_9 q0 i v29, sI 8 s.1, sI 28 i, e23_40, e23_41, e23_42, e23_2 q0 i, e23_5 q0 i, sI 57 v29, e23_1 q0 i v29, e23_43, e23_44, e23_45], [e23_6, hA 70401 3 tI s.2.1, e23_0 q0, e23_7, hA 70404 3 tI s.2.2]⟩ : St)) (fun s X => VCc47_l2 q0 R i K v29 X1 s.1 s.2.1 s.2.2 X) (s0 := ((0 : Int), l70401, l70404)) (fun s X2 h => ?_) h
        obtain ⟨v8, l704012, l704042⟩ := s
        have h : VCc47_l2 q0 R i K v29 X1 v8 l704012 l704042 X2 := h
        unfold VCc47_l2 at h
        refine srn 1 ⟨19, [e23_3 q0 i v29, e23_27, e23_9 q0 i v29, sI 8 v8, sB 9 (decide (v8 < (((((q0.1.getD (i).toNat ((0 : Int), ((0 : Int), ((0 : Int), ([] : LL))))).2.2.2).getD (v29).toNat ([] : LI)).drop ((1 : Int)).toNat).length : Int))), sI 28 i, e23_40, e23_41, e23_42, e23_2 q0 i, e23_5 q0 i, sI 57 v29, e23_1 q0 i v29, e23_43, e23_44, e23_45], [e23_6, e23_18 l704012, e23_0 q0, e23_7, e23_19 l704042]⟩ (by kernel_rfl) rfl ?_
        refine aw_seq ?_
        refine aw_cond (b := (decide (v8 < (((((q0.1.getD (i).toNat ((0 : Int), ((0 : Int), ((0 : Int), ([] : LL))))).2.2.2).getD (v29).toNat ([] : LI)).drop ((1 : Int)).toNat).length : Int)))) (by kernel_rfl) (fun hb => ?_) (fun hb => ?_)
        ·have h := h.1 hb
         refine aw_skip ?_
         refine thenQ_n ?_
         refine aw_seq ?_
         refine aw_block ?_
         refine sr ?_
         refine rqT 2 ⟨19, [e23_3 q0 i v29, e23_27, sI 5 v8, e23_9 q0 i v29, sI 8 v8, sI 28 i, e23_40, e23_41, e23_42, e23_2 q0 i, e23_5 q0 i, sI 57 v29, e23_1 q0 i v29, e23_43, e23_44, e23_45], [e23_6, e23_18 l704012, e23_0 q0, e23_7, e23_19 l704042]⟩ (by kernel_rfl) ?_
         refine nsr ?_
         obtain ⟨o1, h⟩ := h
         refine rq 5 (ob := (Ts 3 (inIdx v8 ((((q0.1.getD (i).toNat ((0 : Int), ((0 : Int), ((0 : Int), ([] : LL))))).2.2.2).getD (v29).toNat ([] : LI)).drop ((1 : Int)).toNat).length ∧ Ts 1 True))) (st' := (⟨19, [e23_3 q0 i v29, e23_27, sI 5 v8, e23_9 q0 i v29, sI 8 v8, s1 11 (.cl 48 [.pt 70402 0]), sI 15 (((((q0.1.getD (i).toNat ((0 : Int), ((0 : Int), ((0 : Int), ([] : LL))))).2.2.2).getD (v29).toNat ([] : LI)).drop ((1 : Int)).toNat).getD (v8).toNat (0 : Int)), sI 28 i, e23_40, e23_41, e23_42, e23_2 q0 i, e23_5 q0 i, sI 57 v29, e23_1 q0 i v29, e23_43, e23_44, e23_45], [e23_6, e23_18 l704012, e23_0 q0, e23_7, e23_19 l704042]⟩ : St)) (by kernel_rfl) (tsI 3 ⟨o1, tsI 1 trivial⟩) ?_
         refine awl_inlr [.t 3] e23_n0 [.c (.pI (((((q0.1.getD (i).toNat ((0 : Int), ((0 : Int), ((0 : Int), ([] : LL))))).2.2.2).getD (v29).toNat ([] : LI)).drop ((1 : Int)).toNat).getD (v8).toNat (0 : Int)))] [.c (.ptr 70402 0)] rfl rfl (by kernel_rfl) rfl (by kernel_rfl) Try.call48 (by kernel_rfl) (by kernel_rfl) Try.func48 rfl rfl (by kernel_rfl) ?_
         refine aw_conv [] (st' := (⟨8, [e23_25 q0 i v29 v8, sp 1 70402, e23_12 q0 i v29, e23_39, sI 13 v8, e23_10 q0 i v29, sI 16 v8, s1 19 (.cl 48 [.pt 70402 0]), sI 23 (((((q0.1.getD (i).toNat ((0 : Int), ((0 : Int), ((0 : Int), ([] : LL))))).2.2.2).getD (v29).toNat ([] : LI)).drop ((1 : Int)).toNat).getD (v8).toNat (0 : Int)), sI 36 i, sp 37 70400, sp 39 70402, sp 40 70403, e23_14 q0 i, e23_15 q0 i, sI 65 v29, e23_11 q0 i v29, sp 86 70400, sp 87 70402, sp 88 70403], [e23_6, e23_18 l704012, e23_0 q0, e23_7, e23_19 l704042]⟩ : St)) (by kernel_rfl) ?_
         refine sr ?_
         refine rqT 1 ⟨8, [e23_25 q0 i v29 v8, sp 1 70402, e23_12 q0 i v29, e23_39, sI 13 v8, e23_10 q0 i v29, sI 16 v8, sI 36 i, sp 37 70400, sp 39 70402, sp 40 70403, e23_14 q0 i, e23_15 q0 i, sI 65 v29, e23_11 q0 i v29, sp 86 70400, sp 87 70402, sp 88 70403], [e23_6, e23_18 l704012, e23_0 q0, e23_7, e23_19 l704042]⟩ (by kernel_rfl) ?_
         refine nsr ?_
         refine rqT 2 ⟨8, [e23_24 q0, e23_26 q0 i v29 v8, e23_12 q0 i v29, e23_39, sI 13 v8, e23_10 q0 i v29, sI 16 v8, sI 36 i, sp 37 70400, sp 39 70402, sp 40 70403, e23_14 q0 i, e23_15 q0 i, sI 65 v29, e23_11 q0 i v29, sp 86 70400, sp 87 70402, sp 88 70403], [e23_6, e23_18 l704012, e23_0 q0, e23_7, e23_19 l704042]⟩ (by kernel_rfl) ?_
         refine awl_lcall (σ := Bool × LI × LI) e23_n0 [70400, 70402, 70403] [.c (.pI (((((q0.1.getD (i).toNat ((0 : Int), ((0 : Int), ((0 : Int), ([] : LL))))).2.2.2).getD (v29).toNat ([] : LI)).drop ((1 : Int)).toNat).getD (v8).toNat (0 : Int)))] [.c (.ptr 70400 0), .c (.ad (.pr (.sl (.pr tI (.pr tI (.pr tI (.sl (.sl tI)))))) tI) q0), .c (.ptr 70402 0), .c (.ptr 70403 0)] (fun ret6v => .v (.c (.pB ret6v.1))) (fun ret6v => [e23_6, e23_33 ret6v, e23_0 q0, e23_7, e23_34 ret6v]) (_) [e23_6, e23_18 l704012, e23_0 q0, e23_7, e23_19 l704042] (fun ret6v => (⟨8, [sB 6 ret6v.1, e23_24 q0, e23_26 q0 i v29 v8, e23_12 q0 i v29, e23_39, sI 13 v8, e23_10 q0 i v29, sI 16 v8, sI 36 i, sp 37 70400, sp 39 70402, sp 40 70403, e23_14 q0 i, e23_15 q0 i, sI 65 v29, e23_11 q0 i v29, sp 86 70400, sp 87 70402, sp 88 70403], [e23_6, e23_33 ret6v, e23_0 q0, e23_7, e23_34 ret6v]⟩ : St)) rfl rfl (by kernel_rfl) rfl (by kernel_rfl) Try.call47 (by kernel_rfl) (by kernel_rfl) (by kernel_rfl) (fun _ _ => rfl) (fun _ => by kernel_rfl) (hR (((((q0.1.getD (i).toNat ((0 : Int), ((0 : Int), ((0 : Int), ([] : LL))))).2.2.2).getD (v29).toNat ([] : LI)).drop ((1 : Int)).toNat).getD (v8).toNat (0 : Int)) l704012 l704042 _ h) (fun ret6v h => ?_)
         refine lpr (st' := (⟨8, [sB 6 ret6v.1, e23_12 q0 i v29, e23_39, sI 13 v8, e23_10 q0 i v29, sI 16 v8, sI 36 i, sp 37 70400, sp 39 70402, sp 40 70403, e23_14 q0 i, e23_15 q0 i, sI 65 v29, e23_11 q0 i v29, sp 86 70400, sp 87 70402, sp 88 70403], [e23_6, e23_33 ret6v, e23_0 q0, e23_7, e23_34 ret6v]⟩ : St)) (by kernel_rfl) ?_
         refine rqT 2 ⟨8, [sB 3 (!ret6v.1), e23_12 q0 i v29, e23_39, sI 13 v8, e23_10 q0 i v29, sI 16 v8, sI 36 i, sp 37 70400, sp 39 70402, sp 40 70403, e23_14 q0 i, e23_15 q0 i, sI 65 v29, e23_11 q0 i v29, sp 86 70400, sp 87 70402, sp 88 70403], [e23_6, e23_33 ret6v, e23_0 q0, e23_7, e23_34 ret6v]⟩ (by kernel_rfl) ?_
         refine nn ?_
         refine aw_ret ?_
         refine inlR_r (ob := True) (.v (.c (.pB (!ret6v.1)))) (by kernel_rfl) trivial rfl ?_
         refine lpr (st' := (⟨19, [e23_3 q0 i v29, e23_27, sI 5 v8, e23_9 q0 i v29, sI 8 v8, sB 16 (!ret6v.1), sI 28 i, e23_40, e23_41, e23_42, e23_2 q0 i, e23_5 q0 i, sI 57 v29, e23_1 q0 i v29, e23_43, e23_44, e23_45], [e23_6, e23_33 ret6v, e23_0 q0, e23_7, e23_34 ret6v]⟩ : St)) (by kernel_rfl) ?_
         refine nn ?_
         refine aw_cond (b := (!ret6v.1)) (by kernel_rfl) (fun hb => ?_) (fun hb => ?_)
         ·have h := h.1 hb
          refine srn 2 ⟨19, [sI 4 v8, sI 28 i, e23_40, e23_41, e23_42, e23_2 q0 i, e23_5 q0 i, sI 57 v29, e23_1 q0 i v29, e23_43, e23_44, e23_45], [e23_6, e23_33 ret6v, e23_0 q0, e23_7, e23_34 ret6v]⟩ (by kernel_rfl) rfl ?_
          refine aw_ret ?_
          refine blockQ_r ?_
          refine thenQ_r ?_
          refine thenQ_r ?_
          refine blockQ_r ?_
          refine thenQ_r ?_
          exact rest3 (v8, ret6v.2.1, ret6v.2.2) h
         ·have h := h.2 hb
          refine aw_skip ?_
          refine blockQ_n ?_
          refine thenQ_n ?_
          refine aw_region ?_
          obtain ⟨o1, h⟩ := h
          refine rq 2 (ob := (InR (v8 + (1 : Int)) ∧ Ts 1 True)) (st' := (⟨19, [e23_3 q0 i v29, e23_27, e23_9 q0 i v29, sI 8 (v8 + (1 : Int)), sI 28 i, e23_40, e23_41, e23_42, e23_2 q0 i, e23_5 q0 i, sI 57 v29, e23_1 q0 i v29, e23_43, e23_44, e23_45], [e23_6, e23_33 ret6v, e23_0 q0, e23_7, e23_34 ret6v]⟩ : St)) (by kernel_rfl) (⟨o1, tsI 1 trivial⟩) ?_
          refine awl_nil ?_
          exact thenQ_n ⟨((v8 + (1 : Int)), ret6v.2.1, ret6v.2.2), rfl, h⟩
        ·have h := h.2 hb
         refine cpr (st' := (⟨19, [sI 28 i, e23_40, e23_41, e23_42, e23_2 q0 i, e23_5 q0 i, sI 57 v29, e23_1 q0 i v29, e23_43, e23_44, e23_45], [e23_6, e23_18 l704012, e23_0 q0, e23_7, e23_19 l704042]⟩ : St)) (by kernel_rfl) ?_
         refine aw_exit ?_
         refine thenQ_x ?_
         refine thenQ_x ?_
         refine blockQ_hit ?_
         exact rest4 (l704012, l704042) h
     ·have h := h.2 hb
      refine lpr (st' := (⟨50, [sI 0 i, e23_37, e23_38, e23_35, e23_4 q0 i, e23_8 q0 i, sI 29 v29, e23_21 q0 i v29, (40, [(36, true)], .v (.c (.pB false))), e23_28, e23_29, e23_30], [e23_6, e23_23 l70401, e23_0 q0, e23_7, e23_22 l70404]⟩ : St)) (by kernel_rfl) ?_
      refine rqT 1 ⟨50, [sI 0 i, e23_37, e23_38, e23_35, e23_4 q0 i, e23_8 q0 i, sI 29 v29, sB 41 ((decide ((0 : Int) < ((((q0.1.getD (i).toNat ((0 : Int), ((0 : Int), ((0 : Int), ([] : LL))))).2.2.2).getD (v29).toNat ([] : LI)).length : Int))) && false), e23_28, e23_29, e23_30], [e23_6, e23_23 l70401, e23_0 q0, e23_7, e23_22 l70404]⟩ (by kernel_rfl) ?_
      refine nn ?_
      refine aw_cond (b := ((decide ((0 : Int) < ((((q0.1.getD (i).toNat ((0 : Int), ((0 : Int), ((0 : Int), ([] : LL))))).2.2.2).getD (v29).toNat ([] : LI)).length : Int))) && false)) (by kernel_rfl) (fun hb => ?_) (fun hb => ?_)
      ·have h := h.1 hb
       refine srn 1 ⟨50, [sB 6 false, e23_28, e23_29, e23_30], [e23_6, e23_23 l70401, e23_0 q0, e23_7, e23_22 l70404]⟩ (by kernel_rfl) rfl ?_
       refine aw_ret ?_
       refine blockQ_r ?_
       refine thenQ_r ?_
       refine thenQ_r ?_
       refine blockQ_r ?_
       refine thenQ_r ?_
       exact lret_r (σ := Bool × LI × LI) (A := fun y => .v (.c (.pB y.1))) (H := fun y => [e23_6, hA 70401 3 tI y.2.1, e23_0 q0, e23_7, hA 70404 3 tI y.2.2]) (ob := True) (false, l70401, l70404) (by kernel_rfl) trivial rfl (by kernel_rfl) (by kernel_rfl) (by kernel_rfl) h
      ·have h := h.2 hb
       refine cpr (st' := (⟨50, [sI 0 i, e23_37, e23_38, e23_35, e23_4 q0 i, e23_8 q0 i, sI 29 v29, e23_28, e23_29, e23_30], [e23_6, e23_23 l70401, e23_0 q0, e23_7, e23_22 l70404]⟩ : St)) (by kernel_rfl) ?_
       refine aw_skip ?_
       refine blockQ_n ?_
       exact rest2 (l70401, l70404) h
   ·have h := h.2 hb
    refine cpr (st' := (⟨50, [sI 0 i, e23_37, e23_35, e23_28, e23_29, e23_30], [e23_6, e23_23 l70401, e23_0 q0, e23_7, e23_22 l70404]⟩ : St)) (by kernel_rfl) ?_
    refine aw_exit ?_
    refine thenQ_x ?_
    refine thenQ_x ?_
    refine blockQ_hit ?_
    exact rest1 (l70401, l70404) h
def VCc47_it (q0 : ((List (Int × (Int × (Int × LL)))) × Int)) : Nat → Int → LI → LI → (Bool × LI × LI → Prop) → Prop
  | 0 => fun _ _ _ _ => False
  | n + 1 => fun i c0 c1 K => VCc47 q0 (VCc47_it q0 n) i c0 c1 K
def VCcr47 (q0 : ((List (Int × (Int × (Int × LL)))) × Int)) (i : Int) (c0 : LI) (c1 : LI) (K : Bool × LI × LI → Prop) : Prop := ∃ n, VCc47_it q0 n i c0 c1 K
theorem linkci47 (q0 : ((List (Int × (Int × (Int × LL)))) × Int)) : ∀ (n : Nat) (i : Int) (c0 : LI) (c1 : LI) (K : Bool × LI × LI → Prop), VCc47_it q0 n i c0 c1 K → LCalls Try.prog 47 e23_n0 [70400, 70402, 70403] [e23_6, e23_36 c0, e23_0 q0, e23_7, e23_31 c1] [.c (.pI i), .c (.ptr 70400 0), .c (.ad (.pr (.sl (.pr tI (.pr tI (.pr tI (.sl (.sl tI)))))) tI) q0), .c (.ptr 70402 0), .c (.ptr 70403 0)] (fun av hp' => ∃ y : Bool × LI × LI, av = .v (.c (.pB y.1)) ∧ hp' = [e23_6, hA 70401 3 tI y.2.1, e23_0 q0, e23_7, hA 70404 3 tI y.2.2] ∧ K y)
  | 0, _, _, _, _, h => False.elim h
  | n + 1, i, c0, c1, K, h => linkc47 q0 (VCc47_it q0 n) (linkci47 q0 n) i c0 c1 K h
theorem linkcr47 (q0 : ((List (Int × (Int × (Int × LL)))) × Int)) (i : Int) (c0 : LI) (c1 : LI) (K : Bool × LI × LI → Prop) (h : VCcr47 q0 i c0 c1 K) : LCalls Try.prog 47 e23_n0 [70400, 70402, 70403] [e23_6, e23_36 c0, e23_0 q0, e23_7, e23_31 c1] [.c (.pI i), .c (.ptr 70400 0), .c (.ad (.pr (.sl (.pr tI (.pr tI (.pr tI (.sl (.sl tI)))))) tI) q0), .c (.ptr 70402 0), .c (.ptr 70403 0)] (fun av hp' => ∃ y : Bool × LI × LI, av = .v (.c (.pB y.1)) ∧ hp' = [e23_6, hA 70401 3 tI y.2.1, e23_0 q0, e23_7, hA 70404 3 tI y.2.2] ∧ K y) := by
  obtain ⟨n, h⟩ := h
  exact linkci47 q0 n i c0 c1 K h
abbrev e23a0 (tv : ((List (Int × (Int × (Int × LL)))) × Int)) : Nat × Path × Con := hB 1 [.p (.sl (.pr tI (.pr tI (.pr tI (.sl (.sl tI)))))) tv.1, .pI tv.2]
abbrev e23a1 (tv : ((List (Int × (Int × (Int × LL)))) × Int)) : Nat × Path × AV := s1 30 (.p (.sl (.pr tI (.pr tI (.pr tI (.sl (.sl tI)))))) tv.1)
abbrev e23a2 (tv : ((List (Int × (Int × (Int × LL)))) × Int)) : Nat × Path × Con := hB 11 [.cl 47 [.pt 10 0, .ad ⟨(.pr (.sl (.pr tI (.pr tI (.pr tI (.sl (.sl tI)))))) tI), tv⟩, .pt 11 0, .pt 9 0]]
abbrev e23a3 (tv : ((List (Int × (Int × (Int × LL)))) × Int)) : Nat × Path × Con := hB 70402 [.cl 47 [.pt 70400 0, .ad ⟨(.pr (.sl (.pr tI (.pr tI (.pr tI (.sl (.sl tI)))))) tI), tv⟩, .pt 70402 0, .pt 70403 0]]
abbrev e23a4 (tv : ((List (Int × (Int × (Int × LL)))) × Int)) : Nat × Path × AV := s1 4 (.ad tI (tv.1.length : Int))
abbrev e23a5 (tv : ((List (Int × (Int × (Int × LL)))) × Int)) (v32 : Int) : Nat × Path × AV := s1 37 (.p (.sl (.sl tI)) ((tv.1.getD (v32).toNat ((0 : Int), ((0 : Int), ((0 : Int), ([] : LL))))).2.2.2))
abbrev e23a6 (tv : ((List (Int × (Int × (Int × LL)))) × Int)) (v32 : Int) : Nat × Path × AV := sI 38 (((tv.1.getD (v32).toNat ((0 : Int), ((0 : Int), ((0 : Int), ([] : LL))))).2.2.2).length : Int)
abbrev e23a7 (tv : ((List (Int × (Int × (Int × LL)))) × Int)) : Nat × Path × Con := hA 55 3 tI (List.replicate ((tv.1.length : Int)).toNat (0 : Int))
abbrev e23a8 (tv : ((List (Int × (Int × (Int × LL)))) × Int)) : Nat × Path × AV := sI 31 (tv.1.length : Int)
abbrev e23a9 (tv : ((List (Int × (Int × (Int × LL)))) × Int)) : Nat × Path × AV := s1 61 (.cl 47 [.pt 70400 0, .ad ⟨(.pr (.sl (.pr tI (.pr tI (.pr tI (.sl (.sl tI)))))) tI), tv⟩, .pt 70402 0, .pt 70403 0])
abbrev e23a10 (tv : ((List (Int × (Int × (Int × LL)))) × Int)) (v32 : Int) (v39 : Int) : Nat × Path × AV := sB 46 (decide ((0 : Int) < ((((tv.1.getD (v32).toNat ((0 : Int), ((0 : Int), ((0 : Int), ([] : LL))))).2.2.2).getD (v39).toNat ([] : LI)).length : Int)))
abbrev e23a11 (tv : ((List (Int × (Int × (Int × LL)))) × Int)) : Nat × Path × AV := sI 57 (tv.1.length : Int)
abbrev e23a12 : Nat × Path × Con := hB 10 [.own 55]
abbrev e23a13 (ret63v : Bool × LI × LI) : Nat × Path × Con := hA 70401 3 tI ret63v.2.1
abbrev e23a14 (ret63v : Bool × LI × LI) : Nat × Path × Con := hA 70404 3 tI ret63v.2.2
abbrev e23a15 : Nat × Path × Con := hB 70403 [.own 70404]
abbrev e23a16 : Nat × Path × Con := hB 70400 [.own 70401]
abbrev e23a17 : Nat × Path × Con := hB 9 [.own 6180]
-- coppicer/thicket.Sorted
def VC23_k2 (K : LI × Bool → Prop) (l6180 : LI) : Prop :=
  K (l6180, true)
def VC23_l1 (tv : ((List (Int × (Int × (Int × LL)))) × Int)) (K : LI × Bool → Prop) (v58 : Int) (l55 : LI) (l6180 : LI) (X1 : Int × LI × LI → Prop) : Prop :=
  (((decide (v58 < (tv.1.length : Int))) = true → VCcr47 tv v58 l55 l6180 (fun (ret63v : Bool × LI × LI) => (((!ret63v.1) = true → K (([] : LI), false)) ∧ ((!ret63v.1) = false → (InR (v58 + (1 : Int)) ∧ X1 ((v58 + (1 : Int)), ret63v.2.1, ret63v.2.2)))))) ∧ ((decide (v58 < (tv.1.length : Int))) = false → VC23_k2 K l6180))
def VC23_k1 (tv : ((List (Int × (Int × (Int × LL)))) × Int)) (K : LI × Bool → Prop) : Prop :=
  (room (tv.1.length : Int) ∧ Loop (σ := Int × LI × LI) (fun s X => VC23_l1 tv K s.1 s.2.1 s.2.2 X) ((0 : Int), (List.replicate ((tv.1.length : Int)).toNat (0 : Int)), ([] : List Int)))
def VC23_k3 (v32 : Int) (X2 : Int → Prop) : Prop :=
  (InR (v32 + (1 : Int)) ∧ X2 (v32 + (1 : Int)))
def VC23_l3 (tv : ((List (Int × (Int × (Int × LL)))) × Int)) (K : LI × Bool → Prop) (v32 : Int) (X2 : Int → Prop) (v39 : Int) (X3 : Int → Prop) : Prop :=
  (((decide (v39 < (((tv.1.getD (v32).toNat ((0 : Int), ((0 : Int), ((0 : Int), ([] : LL))))).2.2.2).length : Int))) = true → (inIdx v39 ((tv.1.getD (v32).toNat ((0 : Int), ((0 : Int), ((0 : Int), ([] : LL))))).2.2.2).length ∧ (((decide ((0 : Int) < ((((tv.1.getD (v32).toNat ((0 : Int), ((0 : Int), ((0 : Int), ([] : LL))))).2.2.2).getD (v39).toNat ([] : LI)).length : Int))) = true → (0 ≤ (1 : Int) ∧ (1 : Int) ≤ ((((tv.1.getD (v32).toNat ((0 : Int), ((0 : Int), ((0 : Int), ([] : LL))))).2.2.2).getD (v39).toNat ([] : LI)).length : Int))) ∧ gcall (α := Bool) (decide ((0 : Int) < ((((tv.1.getD (v32).toNat ((0 : Int), ((0 : Int), ((0 : Int), ([] : LL))))).2.2.2).getD (v39).toNat ([] : LI)).length : Int))) (VC27 ((((tv.1.getD (v32).toNat ((0 : Int), ((0 : Int), ((0 : Int), ([] : LL))))).2.2.2).getD (v39).toNat ([] : LI)).drop ((1 : Int)).toNat) (fun (x : Int) (K : Bool → Prop) => VC46 x (tv.1.length : Int) K)) false (fun (ret50v : Bool) => ((((decide ((0 : Int) < ((((tv.1.getD (v32).toNat ((0 : Int), ((0 : Int), ((0 : Int), ([] : LL))))).2.2.2).getD (v39).toNat ([] : LI)).length : Int))) && ret50v) = true → K (([] : LI), false)) ∧ (((decide ((0 : Int) < ((((tv.1.getD (v32).toNat ((0 : Int), ((0 : Int), ((0 : Int), ([] : LL))))).2.2.2).getD (v39).toNat ([] : LI)).length : Int))) && ret50v) = false → (InR (v39 + (1 : Int)) ∧ X3 (v39 + (1 : Int))))))))) ∧ ((decide (v39 < (((tv.1.getD (v32).toNat ((0 : Int), ((0 : Int), ((0 : Int), ([] : LL))))).2.2.2).length : Int))) = false → VC23_k3 v32 X2))
def VC23_l2 (tv : ((List (Int × (Int × (Int × LL)))) × Int)) (K : LI × Bool → Prop) (v32 : Int) (X2 : Int → Prop) : Prop :=
  (((decide (v32 < (tv.1.length : Int))) = true → (inIdx v32 tv.1.length ∧ Loop (σ := Int) (fun s X => VC23_l3 tv K v32 X2 s X) (0 : Int))) ∧ ((decide (v32 < (tv.1.length : Int))) = false → VC23_k1 tv K))
def VC23 (tv : ((List (Int × (Int × (Int × LL)))) × Int)) (K : LI × Bool → Prop) : Prop :=
  (((((decide ((200 : Int) < (tv.1.length : Int))) || (decide (tv.2 < (0 : Int)))) || (decide ((tv.1.length : Int) ≤ tv.2))) = true → K (([] : LI), false)) ∧ ((((decide ((200 : Int) < (tv.1.length : Int))) || (decide (tv.2 < (0 : Int)))) || (decide ((tv.1.length : Int) ≤ tv.2))) = false → Loop (σ := Int) (fun s X => VC23_l2 tv K s X) (0 : Int)))
set_option maxHeartbeats 4000000 in
theorem link23 (tv : ((List (Int × (Int × (Int × LL)))) × Int)) (K : LI × Bool → Prop) (h : VC23 tv K) : ACalls Try.prog 23 [toV1 (.pr (.sl (.pr tI (.pr tI (.pr tI (.sl (.sl tI)))))) tI) tv] (fun res => ∃ y, res = (fun y => [toV1 (.sl tI) y.1, toV1 .bool y.2]) y ∧ K y) := by
 refine acalls_of_aw [(.sl tI), .bool] [.t 2, .t 3] Try.func23 rfl rfl rfl ?_
 unfold VC23 at h
 refine sr ?_
 refine rqT 3 ⟨67, [sp 1 1], [e23a0 tv]⟩ (by kernel_rfl) ?_
 refine nsr ?_
 refine rqT 5 ⟨67, [sp 1 1, sp 4 4], [e23a0 tv, hB 4 [.pI (tv.1.length : Int)]]⟩ (by kernel_rfl) ?_
 refine nn ?_
 refine aw_seq ?_
 refine sr ?_
 refine rq 13 (ob := (Ts 3 (Ti 3 ((decide ((200 : Int) < (tv.1.length : Int))) = false → True) (Ts 2 (Ti 4 (((decide ((200 : Int) < (tv.1.length : Int))) || (decide (tv.2 < (0 : Int)))) = false → True) (Ts 1 True)))))) (st' := (⟨67, [sp 1 1, sp 4 4, sB 28 (((decide ((200 : Int) < (tv.1.length : Int))) || (decide (tv.2 < (0 : Int)))) || (decide ((tv.1.length : Int) ≤ tv.2)))], [e23a0 tv, hB 4 [.pI (tv.1.length : Int)]]⟩ : St)) (by kernel_rfl) (tsI 3 (tiI 3 (fun _ => trivial) (tsI 2 (tiI 4 (fun _ => trivial) (tsI 1 trivial))))) ?_
 refine nn ?_
 refine aw_cond (b := (((decide ((200 : Int) < (tv.1.length : Int))) || (decide (tv.2 < (0 : Int)))) || (decide ((tv.1.length : Int) ≤ tv.2)))) (by kernel_rfl) (fun hb => ?_) (fun hb => ?_)
 ·have h := h.1 hb
  refine srn 2 ⟨67, [s1 2 (.nils), sB 3 false], []⟩ (by kernel_rfl) rfl ?_
  refine aw_ret ?_
  refine thenQ_r ?_
  exact retQ_r (ob := Ts 2 True) _ (by kernel_rfl) (tsI 2 trivial) h
 ·have h := h.2 hb
  refine aw_skip ?_
  refine thenQ_n ?_
  refine aw_seq ?_
  refine srn 4 ⟨67, [sp 1 1, sp 4 4, e23a1 tv, e23a8 tv, sI 32 (0 : Int)], [e23a0 tv, hB 4 [.pI (tv.1.length : Int)]]⟩ (by kernel_rfl) rfl ?_
  refine withJoin (σ := Unit) (fun s => (⟨67, [sp 1 1, e23a4 tv], [e23a0 tv]⟩ : St)) (fun s => VC23_k1 tv K) (fun s h => ?_) (fun rest2 => ?_)
  ·have h : VC23_k1 tv K := h
   unfold VC23_k1 at h
   refine thenQ_n ?_
   refine sr ?_
   refine rqT 1 ⟨67, [sp 1 1, e23a4 tv, sp 9 9], [e23a0 tv, hB 9 [.nils]]⟩ (by kernel_rfl) ?_
   refine nsr ?_
   obtain ⟨o1, h⟩ := h
   refine rq 4 (ob := (Ts 1 (room (tv.1.length : Int) ∧ Ts 2 True))) (st' := (⟨67, [sp 1 1, e23a4 tv, sp 9 9, sp 10 10], [e23a0 tv, hB 9 [.nils], e23a12, e23a7 tv]⟩ : St)) (by kernel_rfl) (tsI 1 ⟨o1, tsI 2 trivial⟩) ?_
   refine nsr ?_
   refine rqT 1 ⟨67, [sp 1 1, e23a4 tv, sp 9 9, sp 10 10, sp 11 11], [e23a0 tv, hB 9 [.nils], e23a12, hB 11 [.any], e23a7 tv]⟩ (by kernel_rfl) ?_
   refine nsr ?_
   refine awl_conv [.freezeB 1 (.pr (.sl (.pr tI (.pr tI (.pr tI (.sl (.sl tI)))))) tI)] (st' := (⟨67, [s1 1 (.ad (.pr (.sl (.pr tI (.pr tI (.pr tI (.sl (.sl tI)))))) tI) tv), e23a4 tv, sp 9 9, sp 10 10, sp 11 11], [hB 9 [.nils], e23a12, hB 11 [.any], e23a7 tv]⟩ : St)) (by kernel_rfl) ?_
   refine rqT 2 ⟨67, [e23a4 tv, sp 9 9, sp 11 11], [hB 9 [.nils], e23a12, e23a2 tv, e23a7 tv]⟩ (by kernel_rfl) ?_
   refine nn ?_
   refine aw_seq ?_
   refine srn 2 ⟨67, [sp 9 9, sp 11 11, e23a11 tv, sI 58 (0 : Int)], [hB 9 [.nils], e23a12, e23a2 tv, e23a7 tv]⟩ (by kernel_rfl) rfl ?_
   refine withJoin (σ := LI) (fun s => (⟨67, [sp 9 9], [e23a17, hA 6180 3 tI s]⟩ : St)) (fun s => VC23_k2 K s) (fun l6180 h => ?_) (fun rest1 => ?_)
   ·have h : VC23_k2 K l6180 := h
    unfold VC23_k2 at h
    refine thenQ_n ?_
    refine srn 3 ⟨67, [s1 2 (.own 6180), sB 3 true], [hA 6180 3 tI l6180]⟩ (by kernel_rfl) rfl ?_
    refine aw_conv [.freeze 6180] (st' := (⟨67, [s1 2 (.pS l6180), sB 3 true], []⟩ : St)) (by kernel_rfl) ?_
    refine aw_ret ?_
    exact retQ_r (ob := Ts 2 True) _ (by kernel_rfl) (tsI 2 trivial) h
   ·refine aw_block ?_
    refine aw_conv [.nilOwnB 9 0 6180 3 tI, .prune [9, 11, 57, 58] [9, 10, 11, 55, 6180]] (st' := (⟨67, [sp 9 9, sp 11 11, e23a11 tv, sI 58 (0 : Int)], [e23a17, e23a12, e23a2 tv, e23a7 tv, hA 6180 3 tI ([] : List Int)]⟩ : St)) (by kernel_rfl) ?_
    refine aw_loop (σ := Int × LI × LI) (fun s => (⟨67, [sp 9 9, sp 11 11, e23a11 tv, sI 58 s.1], [e23a17, e23a12, e23a2 tv, hA 55 3 tI s.2.1, hA 6180 3 tI s.2.2]⟩ : St)) (fun s X => VC23_l1 tv K s.1 s.2.1 s.2.2 X) (s0 := ((0 : Int), (List.replicate ((tv.1.length : Int)).toNat (0 : Int)), ([] : List Int))) (fun s X1 h => ?_) h
    obtain ⟨v58, l55, l6180⟩ := s
    have h : VC23_l1 tv K v58 l55 l6180 X1 := h
    unfold VC23_l1 at h
    refine srn 1 ⟨67, [sp 9 9, sp 11 11, e23a11 tv, sI 58 v58, sB 59 (decide (v58 < (tv.1.length : Int)))], [e23a17, e23a12, e23a2 tv, hA 55 3 tI l55, hA 6180 3 tI l6180]⟩ (by kernel_rfl) rfl ?_
    refine aw_seq ?_
    refine aw_cond (b := (decide (v58 < (tv.1.length : Int)))) (by kernel_rfl) (fun hb => ?_) (fun hb => ?_)
    ·have h := h.1 hb
     refine aw_skip ?_
     refine thenQ_n ?_
     refine aw_seq ?_
     refine aw_block ?_
     refine sr ?_
     refine rqT 2 ⟨67, [sp 9 9, sp 11 11, sI 12 v58, e23a11 tv, sI 58 v58], [e23a17, e23a12, e23a2 tv, hA 55 3 tI l55, hA 6180 3 tI l6180]⟩ (by kernel_rfl) ?_
     refine nsr ?_
     refine rqT 2 ⟨67, [sp 9 9, sp 11 11, e23a11 tv, sI 58 v58, s1 61 (.cl 47 [.pt 10 0, .ad ⟨(.pr (.sl (.pr tI (.pr tI (.pr tI (.sl (.sl tI)))))) tI), tv⟩, .pt 11 0, .pt 9 0]), sI 62 v58], [e23a17, e23a12, e23a2 tv, hA 55 3 tI l55, hA 6180 3 tI l6180]⟩ (by kernel_rfl) ?_
     refine awl_conv [.ren 10 70400, .ren 55 70401, .ren 11 70402, .ren 9 70403, .ren 6180 70404] (st' := (⟨67, [sp 9 70403, sp 11 70402, e23a11 tv, sI 58 v58, e23a9 tv, sI 62 v58], [e23a15, e23a16, e23a3 tv, hA 70401 3 tI l55, hA 70404 3 tI l6180]⟩ : St)) (by kernel_rfl) ?_
     refine awl_lcall (σ := Bool × LI × LI) [70400, 70401, 70402, 70403, 70404] [70400, 70402, 70403] [.c (.pI v58)] [.c (.ptr 70400 0), .c (.ad (.pr (.sl (.pr tI (.pr tI (.pr tI (.sl (.sl tI)))))) tI) tv), .c (.ptr 70402 0), .c (.ptr 70403 0)] (fun ret63v => .v (.c (.pB ret63v.1))) (fun ret63v => [e23a16, e23a13 ret63v, e23a3 tv, e23a15, e23a14 ret63v]) (_) [e23a16, hA 70401 3 tI l55, e23a3 tv, e23a15, hA 70404 3 tI l6180] (fun ret63v => (⟨67, [sB 63 ret63v.1, sp 9 70403, sp 11 70402, e23a11 tv, sI 58 v58, e23a9 tv, sI 62 v58], [e23a16, e23a13 ret63v, e23a3 tv, e23a15, e23a14 ret63v]⟩ : St)) rfl rfl (by kernel_rfl) rfl (by kernel_rfl) Try.call47 (by kernel_rfl) (by kernel_rfl) (by kernel_rfl) (fun _ _ => rfl) (fun _ => by kernel_rfl) (linkcr47 tv v58 l55 l6180 _ h) (fun ret63v h => ?_)
     refine lpr (st' := (⟨67, [sp 9 70403, sp 11 70402, e23a11 tv, sI 58 v58, sB 63 ret63v.1], [e23a16, e23a13 ret63v, e23a3 tv, e23a15, e23a14 ret63v]⟩ : St)) (by kernel_rfl) ?_
     refine rqT 1 ⟨67, [sp 9 70403, sp 11 70402, e23a11 tv, sI 58 v58, sB 64 (!ret63v.1)], [e23a16, e23a13 ret63v, e23a3 tv, e23a15, e23a14 ret63v]⟩ (by kernel_rfl) ?_
     refine nn ?_
     refine aw_cond (b := (!ret63v.1)) (by kernel_rfl) (fun hb => ?_) (fun hb => ?_)
     ·have h := h.1 hb
      refine srn 2 ⟨67, [s1 2 (.nils), sB 3 false], []⟩ (by kernel_rfl) rfl ?_
      refine aw_ret ?_
      refine blockQ_r ?_
      refine thenQ_r ?_
      refine thenQ_r ?_
      refine blockQ_r ?_
      refine thenQ_r ?_
      exact retQ_r (ob := Ts 2 True) _ (by kernel_rfl) (tsI 2 trivial) h
     ·have h := h.2 hb
      refine aw_skip ?_
      refine blockQ_n ?_
      refine thenQ_n ?_
      refine aw_region ?_
      obtain ⟨o1, h⟩ := h
      refine rq 2 (ob := (InR (v58 + (1 : Int)) ∧ Ts 1 True)) (st' := (⟨67, [sp 9 70403, sp 11 70402, e23a11 tv, sI 58 (v58 + (1 : Int))], [e23a16, e23a13 ret63v, e23a3 tv, e23a15, e23a14 ret63v]⟩ : St)) (by kernel_rfl) (⟨o1, tsI 1 trivial⟩) ?_
      refine awl_conv [.ren 70403 90403, .ren 70404 90404, .ren 70402 90402, .ren 70400 90400, .ren 70401 90401, .ren 90403 9, .ren 90404 6180, .ren 90402 11, .ren 90400 10, .ren 90401 55, .prune [9, 11, 57, 58] [9, 10, 11, 55, 6180]] (st' := (⟨67, [sp 9 9, sp 11 11, e23a11 tv, sI 58 (v58 + (1 : Int))], [e23a17, e23a12, e23a2 tv, hA 55 3 tI ret63v.2.1, hA 6180 3 tI ret63v.2.2]⟩ : St)) (by kernel_rfl) ?_
      refine awl_nil ?_
      exact thenQ_n ⟨((v58 + (1 : Int)), ret63v.2.1, ret63v.2.2), rfl, h⟩
    ·have h := h.2 hb
     refine cpr (st' := (⟨67, [sp 9 9], [e23a17, hA 6180 3 tI l6180]⟩ : St)) (by kernel_rfl) ?_
     refine aw_exit ?_
     refine thenQ_x ?_
     refine thenQ_x ?_
     refine blockQ_hit ?_
     exact rest1 l6180 h
  ·refine aw_block ?_
   refine aw_conv [.freezeB 4 tI] (st' := (⟨67, [sp 1 1, e23a4 tv, e23a1 tv, e23a8 tv, sI 32 (0 : Int)], [e23a0 tv]⟩ : St)) (by kernel_rfl) ?_
   refine aw_loop (σ := Int) (fun s => (⟨67, [sp 1 1, e23a4 tv, e23a1 tv, e23a8 tv, sI 32 s], [e23a0 tv]⟩ : St)) (fun s X => VC23_l2 tv K s X) (s0 := (0 : Int)) (fun v32 X2 h => ?_) h
   have h : VC23_l2 tv K v32 X2 := h
   unfold VC23_l2 at h
   refine srn 1 ⟨67, [sp 1 1, e23a4 tv, e23a1 tv, e23a8 tv, sI 32 v32, sB 33 (decide (v32 < (tv.1.length : Int)))], [e23a0 tv]⟩ (by kernel_rfl) rfl ?_
   refine aw_seq ?_
   refine aw_cond (b := (decide (v32 < (tv.1.length : Int)))) (by kernel_rfl) (fun hb => ?_) (fun hb => ?_)
   ·have h := h.1 hb
    refine aw_skip ?_
    refine thenQ_n ?_
    refine aw_seq ?_
    refine aw_block ?_
    refine sr ?_
    obtain ⟨o1, h⟩ := h
    refine rq 4 (ob := (inIdx v32 tv.1.length ∧ Ts 3 True)) (st' := (⟨67, [sp 1 1, e23a4 tv, sp 6 6, e23a1 tv, e23a8 tv, sI 32 v32], [e23a0 tv, hB 6 [.pI ((tv.1.getD (v32).toNat ((0 : Int), ((0 : Int), ((0 : Int), ([] : LL))))).1), .pI ((tv.1.getD (v32).toNat ((0 : Int), ((0 : Int), ((0 : Int), ([] : LL))))).2.1), .pI ((tv.1.getD (v32).toNat ((0 : Int), ((0 : Int), ((0 : Int), ([] : LL))))).2.2.1), .p (.sl (.sl tI)) ((tv.1.getD (v32).toNat ((0 : Int), ((0 : Int), ((0 : Int), ([] : LL))))).2.2.2)]]⟩ : St)) (by kernel_rfl) (⟨o1, tsI 3 trivial⟩) ?_
    refine nsr ?_
    refine rqT 4 ⟨67, [sp 1 1, e23a4 tv, e23a1 tv, e23a8 tv, sI 32 v32, e23a5 tv v32, e23a6 tv v32, sI 39 (0 : Int)], [e23a0 tv]⟩ (by kernel_rfl) ?_
    refine nn ?_
    refine withJoin (σ := Unit) (fun s => (⟨67, [sp 1 1, e23a4 tv, e23a1 tv, e23a8 tv, sI 32 v32], [e23a0 tv]⟩ : St)) (fun s => VC23_k3 v32 X2) (fun s h => ?_) (fun rest3 => ?_)
    ·have h : VC23_k3 v32 X2 := h
     unfold VC23_k3 at h
     refine blockQ_n ?_
     refine thenQ_n ?_
     refine aw_region ?_
     obtain ⟨o1, h⟩ := h
     refine rq 2 (ob := (InR (v32 + (1 : Int)) ∧ Ts 1 True)) (st' := (⟨67, [sp 1 1, e23a4 tv, e23a1 tv, e23a8 tv, sI 32 (v32 + (1 : Int))], [e23a0 tv]⟩ : St)) (by kernel_rfl) (⟨o1, tsI 1 trivial⟩) ?_
     refine awl_nil ?_
     exact thenQ_n ⟨(v32 + (1 : Int)), rfl, h⟩
    ·refine aw_block ?_
     refine aw_loop (σ := Int) (fun s => (⟨67, [sp 1 1, e23a4 tv, e23a1 tv, e23a8 tv, sI 32 v32, e23a5 tv v32, e23a6 tv v32, sI 39 s], [e23a0 tv]⟩ : St)) (fun s X => VC23_l3 tv K v32 X2 s X) (s0 := (0 : Int)) (fun v39 X3 h => ?_) h
     have h : VC23_l3 tv K v32 X2 v39 X3 := h
     unfold VC23_l3 at h
     refine srn 1 ⟨67, [sp 1 1, e23a4 tv, e23a1 tv, e23a8 tv, sI 32 v32, e23a5 tv v32, e23a6 tv v32, sI 39 v39, sB 40 (decide (v39 < (((tv.1.getD (v32).toNat ((0 : Int), ((0 : Int), ((0 : Int), ([] : LL))))).2.2.2).length : Int)))], [e23a0 tv]⟩ (by kernel_rfl) rfl ?_
     refine aw_seq ?_
     refine aw_cond (b := (decide (v39 < (((tv.1.getD (v32).toNat ((0 : Int), ((0 : Int), ((0 : Int), ([] : LL))))).2.2.2).length : Int)))) (by kernel_rfl) (fun hb => ?_) (fun hb => ?_)
     ·have h := h.1 hb
      refine aw_skip ?_
      refine thenQ_n ?_
      refine aw_seq ?_
      refine aw_block ?_
      refine sr ?_
      obtain ⟨o1, h⟩ := h
      refine rq 3 (ob := (inIdx v39 ((tv.1.getD (v32).toNat ((0 : Int), ((0 : Int), ((0 : Int), ([] : LL))))).2.2.2).length ∧ Ts 2 True)) (st' := (⟨67, [sp 1 1, e23a4 tv, s1 8 (.pS (((tv.1.getD (v32).toNat ((0 : Int), ((0 : Int), ((0 : Int), ([] : LL))))).2.2.2).getD (v39).toNat ([] : LI))), e23a1 tv, e23a8 tv, sI 32 v32, e23a5 tv v32, e23a6 tv v32, sI 39 v39], [e23a0 tv]⟩ : St)) (by kernel_rfl) (⟨o1, tsI 2 trivial⟩) ?_
      refine nsr ?_
      obtain ⟨o1, h⟩ := h
      refine rq 7 (ob := (Ts 4 (((decide ((0 : Int) < ((((tv.1.getD (v32).toNat ((0 : Int), ((0 : Int), ((0 : Int), ([] : LL))))).2.2.2).getD (v39).toNat ([] : LI)).length : Int))) = true → True) ∧ ((decide ((0 : Int) < ((((tv.1.getD (v32).toNat ((0 : Int), ((0 : Int), ((0 : Int), ([] : LL))))).2.2.2).getD (v39).toNat ([] : LI)).length : Int))) = true → (0 ≤ (1 : Int) ∧ (1 : Int) ≤ ((((tv.1.getD (v32).toNat ((0 : Int), ((0 : Int), ((0 : Int), ([] : LL))))).2.2.2).getD (v39).toNat ([] : LI)).length : Int))) ∧ ((decide ((0 : Int) < ((((tv.1.getD (v32).toNat ((0 : Int), ((0 : Int), ((0 : Int), ([] : LL))))).2.2.2).getD (v39).toNat ([] : LI)).length : Int))) = true → True) ∧ True))) (st' := (⟨67, [sp 1 1, e23a4 tv, e23a1 tv, e23a8 tv, sI 32 v32, e23a5 tv v32, e23a6 tv v32, sI 39 v39, e23a10 tv v32 v39, (48, [(46, true)], .v (.c (.pS ((((tv.1.getD (v32).toNat ((0 : Int), ((0 : Int), ((0 : Int), ([] : LL))))).2.2.2).getD (v39).toNat ([] : LI)).drop ((1 : Int)).toNat)))), (49, [(46, true)], .v (.c (.fn 46 [(⟨tI, (tv.1.length : Int)⟩ : Dat)])))], [e23a0 tv]⟩ : St)) (by kernel_rfl) (tsI 4 (⟨(fun _ => trivial), ⟨o1, ⟨(fun _ => trivial), trivial⟩⟩⟩)) ?_
      refine awl_callk (p := [(46, true)]) (l := [toV1 (.sl tI) ((((tv.1.getD (v32).toNat ((0 : Int), ((0 : Int), ((0 : Int), ([] : LL))))).2.2.2).getD (v39).toNat ([] : LI)).drop ((1 : Int)).toNat), .c (.fn 46 [(⟨tI, (tv.1.length : Int)⟩ : Dat)])]) (cl := []) false [.d (.sl tI), .fn] [1, 4, 30, 31, 32, 37, 38, 39, 46, 50] [1] (fun (ret50v : Bool) => ((((decide ((0 : Int) < ((((tv.1.getD (v32).toNat ((0 : Int), ((0 : Int), ((0 : Int), ([] : LL))))).2.2.2).getD (v39).toNat ([] : LI)).length : Int))) && ret50v) = true → K (([] : LI), false)) ∧ (((decide ((0 : Int) < ((((tv.1.getD (v32).toNat ((0 : Int), ((0 : Int), ((0 : Int), ([] : LL))))).2.2.2).getD (v39).toNat ([] : LI)).length : Int))) && ret50v) = false → (InR (v39 + (1 : Int)) ∧ X3 (v39 + (1 : Int)))))) (fun ret50v => [toV1 .bool ret50v]) (fun ret50v => (⟨67, [sp 1 1, e23a4 tv, e23a1 tv, e23a8 tv, sI 32 v32, e23a5 tv v32, e23a6 tv v32, sI 39 v39, e23a10 tv v32 v39, (50, [(46, true)], .v (.c (.pB ret50v)))], [e23a0 tv]⟩ : St)) (by kernel_rfl) rfl (by kernel_rfl) rfl (by kernel_rfl) Try.call27 (by kernel_rfl) (fun ret50v => by kernel_rfl) (fun e => by cases e) (fun hg => link27 ((((tv.1.getD (v32).toNat ((0 : Int), ((0 : Int), ((0 : Int), ([] : LL))))).2.2.2).getD (v39).toNat ([] : LI)).drop ((1 : Int)).toNat) 46 [(⟨tI, (tv.1.length : Int)⟩ : Dat)] (fun (x : Int) (K : Bool → Prop) => VC46 x (tv.1.length : Int) K) ⟨Try.call46, fun x K h => link46 x (tv.1.length : Int) K h⟩ _ (by have := gcall_T h (show (decide ((0 : Int) < ((((tv.1.getD (v32).toNat ((0 : Int), ((0 : Int), ((0 : Int), ([] : LL))))).2.2.2).getD (v39).toNat ([] : LI)).length : Int))) = true from hg); exact this)) (fun hg => ⟨false, by have := gcall_F h (show (decide ((0 : Int) < ((((tv.1.getD (v32).toNat ((0 : Int), ((0 : Int), ((0 : Int), ([] : LL))))).2.2.2).getD (v39).toNat ([] : LI)).length : Int))) = false from hg); exact this⟩) (fun ret50v h => ?_)
      refine rqT 1 ⟨67, [sp 1 1, e23a4 tv, e23a1 tv, e23a8 tv, sI 32 v32, e23a5 tv v32, e23a6 tv v32, sI 39 v39, sB 51 ((decide ((0 : Int) < ((((tv.1.getD (v32).toNat ((0 : Int), ((0 : Int), ((0 : Int), ([] : LL))))).2.2.2).getD (v39).toNat ([] : LI)).length : Int))) && ret50v)], [e23a0 tv]⟩ (by kernel_rfl) ?_
      refine nn ?_
      refine aw_cond (b := ((decide ((0 : Int) < ((((tv.1.getD (v32).toNat ((0 : Int), ((0 : Int), ((0 : Int), ([] : LL))))).2.2.2).getD (v39).toNat ([] : LI)).length : Int))) && ret50v)) (by kernel_rfl) (fun hb => ?_) (fun hb => ?_)
      ·have h := h.1 hb
       refine srn 2 ⟨67, [s1 2 (.nils), sB 3 false], []⟩ (by kernel_rfl) rfl ?_
       refine aw_ret ?_
       refine blockQ_r ?_
       refine thenQ_r ?_
       refine thenQ_r ?_
       refine blockQ_r ?_
       refine blockQ_r ?_
       refine thenQ_r ?_
       refine thenQ_r ?_
       refine blockQ_r ?_
       refine thenQ_r ?_
       exact retQ_r (ob := Ts 2 True) _ (by kernel_rfl) (tsI 2 trivial) h
      ·have h := h.2 hb
       refine aw_skip ?_
       refine blockQ_n ?_
       refine thenQ_n ?_
       refine aw_region ?_
       obtain ⟨o1, h⟩ := h
       refine rq 2 (ob := (InR (v39 + (1 : Int)) ∧ Ts 1 True)) (st' := (⟨67, [sp 1 1, e23a4 tv, e23a1 tv, e23a8 tv, sI 32 v32, e23a5 tv v32, e23a6 tv v32, sI 39 (v39 + (1 : Int))], [e23a0 tv]⟩ : St)) (by kernel_rfl) (⟨o1, tsI 1 trivial⟩) ?_
       refine awl_nil ?_
       exact thenQ_n ⟨(v39 + (1 : Int)), rfl, h⟩
     ·have h := h.2 hb
      refine cpr (st' := (⟨67, [sp 1 1, e23a4 tv, e23a1 tv, e23a8 tv, sI 32 v32], [e23a0 tv]⟩ : St)) (by kernel_rfl) ?_
      refine aw_exit ?_
      refine thenQ_x ?_
      refine thenQ_x ?_
      refine blockQ_hit ?_
      exact rest3 () h
   ·have h := h.2 hb
    refine cpr (st' := (⟨67, [sp 1 1, e23a4 tv], [e23a0 tv]⟩ : St)) (by kernel_rfl) ?_
    refine aw_exit ?_
    refine thenQ_x ?_
    refine thenQ_x ?_
    refine blockQ_hit ?_
    exact rest2 () h
abbrev e10_0 (tv : ((List (Int × (Int × (Int × LL)))) × Int)) : Nat × Path × Con := hB 1 [.p (.sl (.pr tI (.pr tI (.pr tI (.sl (.sl tI)))))) tv.1, .pI tv.2]
abbrev e10_1 (tv : ((List (Int × (Int × (Int × LL)))) × Int)) (ret16v : LI × Bool) (v27 : Int) (v49 : Int) : Nat × Path × AV := sI 58 (((((tv.1.getD ((ret16v.1.getD (v27).toNat (0 : Int))).toNat ((0 : Int), ((0 : Int), ((0 : Int), ([] : LL))))).2.2.2).getD (v49).toNat ([] : LI)).drop ((imin (1 : Int) ((((tv.1.getD ((ret16v.1.getD (v27).toNat (0 : Int))).toNat ((0 : Int), ((0 : Int), ((0 : Int), ([] : LL))))).2.2.2).getD (v49).toNat ([] : LI)).length : Int))).toNat).length : Int)
abbrev e10_2 (tv : ((List (Int × (Int × (Int × LL)))) × Int)) (ret16v : LI × Bool) (v27 : Int) : Nat × Path × AV := s1 47 (.p (.sl (.sl tI)) ((tv.1.getD ((ret16v.1.getD (v27).toNat (0 : Int))).toNat ((0 : Int), ((0 : Int), ((0 : Int), ([] : LL))))).2.2.2))
abbrev e10_3 (tv : ((List (Int × (Int × (Int × LL)))) × Int)) (ret16v : LI × Bool) (v27 : Int) (v49 : Int) : Nat × Path × AV := s1 57 (.pS ((((tv.1.getD ((ret16v.1.getD (v27).toNat (0 : Int))).toNat ((0 : Int), ((0 : Int), ((0 : Int), ([] : LL))))).2.2.2).getD (v49).toNat ([] : LI)).drop ((imin (1 : Int) ((((tv.1.getD ((ret16v.1.getD (v27).toNat (0 : Int))).toNat ((0 : Int), ((0 : Int), ((0 : Int), ([] : LL))))).2.2.2).getD (v49).toNat ([] : LI)).length : Int))).toNat))
abbrev e10_4 (tv : ((List (Int × (Int × (Int × LL)))) × Int)) (ret16v : LI × Bool) (v27 : Int) : Nat × Path × AV := sI 48 (((tv.1.getD ((ret16v.1.getD (v27).toNat (0 : Int))).toNat ((0 : Int), ((0 : Int), ((0 : Int), ([] : LL))))).2.2.2).length : Int)
abbrev e10_5 (ret16v : LI × Bool) (v27 : Int) : Nat × Path × AV := sI 8 (ret16v.1.getD (v27).toNat (0 : Int))
abbrev e10_6 (ret16v : LI × Bool) : Nat × Path × AV := sI 26 (ret16v.1.length : Int)
abbrev e10_7 (ret16v : LI × Bool) : Nat × Path × AV := s1 25 (.pS ret16v.1)
abbrev e10_8 : Nat × Path × AV := s1 6 (.own 24)
abbrev e10_9 (many3 : LI) : Nat × Path × Con := hA 24 2 tI many3
abbrev e10_10 (many : LI) : Nat × Path × Con := hA 24 2 tI many
-- coppicer/thicket.Count
def VC10_k1 (tv : ((List (Int × (Int × (Int × LL)))) × Int)) (K : Int × Int → Prop) (many : LI) : Prop :=
  (inIdx tv.2 many.length ∧ (((decide ((1099511627776 : Int) < (many.getD ((tv.2).toNat) (0 : Int)))) = true → K ((0 : Int), (1 : Int))) ∧ ((decide ((1099511627776 : Int) < (many.getD ((tv.2).toNat) (0 : Int)))) = false → (inIdx tv.2 many.length ∧ K ((many.getD ((tv.2).toNat) (0 : Int)), (0 : Int))))))
def VC10_k3 (v27 : Int) (X1 : Int × LI → Prop) (many3 : LI) : Prop :=
  (InR (v27 + (1 : Int)) ∧ X1 ((v27 + (1 : Int)), many3))
def VC10_k4 (ret16v : LI × Bool) (v27 : Int) (v49 : Int) (many3 : LI) (X2 : Int × LI → Prop) (n : Int) : Prop :=
  (inIdx (ret16v.1.getD (v27).toNat (0 : Int)) many3.length ∧ VC25 (many3.getD (((ret16v.1.getD (v27).toNat (0 : Int))).toNat) (0 : Int)) n (fun (ret77v : Int) => (inIdx (ret16v.1.getD (v27).toNat (0 : Int)) many3.length ∧ (InR (v49 + (1 : Int)) ∧ X2 ((v49 + (1 : Int)), (many3.set (((ret16v.1.getD (v27).toNat (0 : Int))).toNat) ret77v))))))
def VC10_l3 (tv : ((List (Int × (Int × (Int × LL)))) × Int)) (ret16v : LI × Bool) (v27 : Int) (v49 : Int) (many3 : LI) (X2 : Int × LI → Prop) (n : Int) (v59 : Int) (X3 : Int × Int → Prop) : Prop :=
  (((decide (v59 < (((((tv.1.getD ((ret16v.1.getD (v27).toNat (0 : Int))).toNat ((0 : Int), ((0 : Int), ((0 : Int), ([] : LL))))).2.2.2).getD (v49).toNat ([] : LI)).drop ((imin (1 : Int) ((((tv.1.getD ((ret16v.1.getD (v27).toNat (0 : Int))).toNat ((0 : Int), ((0 : Int), ((0 : Int), ([] : LL))))).2.2.2).getD (v49).toNat ([] : LI)).length : Int))).toNat).length : Int))) = true → (inIdx v59 ((((tv.1.getD ((ret16v.1.getD (v27).toNat (0 : Int))).toNat ((0 : Int), ((0 : Int), ((0 : Int), ([] : LL))))).2.2.2).getD (v49).toNat ([] : LI)).drop ((imin (1 : Int) ((((tv.1.getD ((ret16v.1.getD (v27).toNat (0 : Int))).toNat ((0 : Int), ((0 : Int), ((0 : Int), ([] : LL))))).2.2.2).getD (v49).toNat ([] : LI)).length : Int))).toNat).length ∧ (inIdx (((((tv.1.getD ((ret16v.1.getD (v27).toNat (0 : Int))).toNat ((0 : Int), ((0 : Int), ((0 : Int), ([] : LL))))).2.2.2).getD (v49).toNat ([] : LI)).drop ((imin (1 : Int) ((((tv.1.getD ((ret16v.1.getD (v27).toNat (0 : Int))).toNat ((0 : Int), ((0 : Int), ((0 : Int), ([] : LL))))).2.2.2).getD (v49).toNat ([] : LI)).length : Int))).toNat).getD (v59).toNat (0 : Int)) many3.length ∧ VC24 n (many3.getD (((((((tv.1.getD ((ret16v.1.getD (v27).toNat (0 : Int))).toNat ((0 : Int), ((0 : Int), ((0 : Int), ([] : LL))))).2.2.2).getD (v49).toNat ([] : LI)).drop ((imin (1 : Int) ((((tv.1.getD ((ret16v.1.getD (v27).toNat (0 : Int))).toNat ((0 : Int), ((0 : Int), ((0 : Int), ([] : LL))))).2.2.2).getD (v49).toNat ([] : LI)).length : Int))).toNat).getD (v59).toNat (0 : Int))).toNat) (0 : Int)) (fun (ret68v : Int) => (InR (v59 + (1 : Int)) ∧ X3 (ret68v, (v59 + (1 : Int)))))))) ∧ ((decide (v59 < (((((tv.1.getD ((ret16v.1.getD (v27).toNat (0 : Int))).toNat ((0 : Int), ((0 : Int), ((0 : Int), ([] : LL))))).2.2.2).getD (v49).toNat ([] : LI)).drop ((imin (1 : Int) ((((tv.1.getD ((ret16v.1.getD (v27).toNat (0 : Int))).toNat ((0 : Int), ((0 : Int), ((0 : Int), ([] : LL))))).2.2.2).getD (v49).toNat ([] : LI)).length : Int))).toNat).length : Int))) = false → VC10_k4 ret16v v27 v49 many3 X2 n))
def VC10_l2 (tv : ((List (Int × (Int × (Int × LL)))) × Int)) (ret16v : LI × Bool) (v27 : Int) (X1 : Int × LI → Prop) (v49 : Int) (many3 : LI) (X2 : Int × LI → Prop) : Prop :=
  (((decide (v49 < (((tv.1.getD ((ret16v.1.getD (v27).toNat (0 : Int))).toNat ((0 : Int), ((0 : Int), ((0 : Int), ([] : LL))))).2.2.2).length : Int))) = true → (inIdx v49 ((tv.1.getD ((ret16v.1.getD (v27).toNat (0 : Int))).toNat ((0 : Int), ((0 : Int), ((0 : Int), ([] : LL))))).2.2.2).length ∧ ((0 ≤ (imin (1 : Int) ((((tv.1.getD ((ret16v.1.getD (v27).toNat (0 : Int))).toNat ((0 : Int), ((0 : Int), ((0 : Int), ([] : LL))))).2.2.2).getD (v49).toNat ([] : LI)).length : Int)) ∧ (imin (1 : Int) ((((tv.1.getD ((ret16v.1.getD (v27).toNat (0 : Int))).toNat ((0 : Int), ((0 : Int), ((0 : Int), ([] : LL))))).2.2.2).getD (v49).toNat ([] : LI)).length : Int)) ≤ ((((tv.1.getD ((ret16v.1.getD (v27).toNat (0 : Int))).toNat ((0 : Int), ((0 : Int), ((0 : Int), ([] : LL))))).2.2.2).getD (v49).toNat ([] : LI)).length : Int)) ∧ Loop (σ := Int × Int) (fun s X => VC10_l3 tv ret16v v27 v49 many3 X2 s.1 s.2 X) ((1 : Int), (0 : Int))))) ∧ ((decide (v49 < (((tv.1.getD ((ret16v.1.getD (v27).toNat (0 : Int))).toNat ((0 : Int), ((0 : Int), ((0 : Int), ([] : LL))))).2.2.2).length : Int))) = false → VC10_k3 v27 X1 many3))
def VC10_k2 (tv : ((List (Int × (Int × (Int × LL)))) × Int)) (ret16v : LI × Bool) (v27 : Int) (X1 : Int × LI → Prop) (many2 : LI) : Prop :=
  (inIdx (ret16v.1.getD (v27).toNat (0 : Int)) tv.1.length ∧ Loop (σ := Int × LI) (fun s X => VC10_l2 tv ret16v v27 X1 s.1 s.2 X) ((0 : Int), many2))
def VC10_l1 (tv : ((List (Int × (Int × (Int × LL)))) × Int)) (K : Int × Int → Prop) (ret16v : LI × Bool) (v27 : Int) (many : LI) (X1 : Int × LI → Prop) : Prop :=
  (((decide (v27 < (ret16v.1.length : Int))) = true → (inIdx v27 ret16v.1.length ∧ (inIdx (ret16v.1.getD (v27).toNat (0 : Int)) tv.1.length ∧ (((decide ((((tv.1.getD ((ret16v.1.getD (v27).toNat (0 : Int))).toNat ((0 : Int), ((0 : Int), ((0 : Int), ([] : LL))))).2.2.2).length : Int) = (0 : Int))) = true → (inIdx (ret16v.1.getD (v27).toNat (0 : Int)) many.length ∧ VC10_k2 tv ret16v v27 X1 (many.set (((ret16v.1.getD (v27).toNat (0 : Int))).toNat) (1 : Int)))) ∧ ((decide ((((tv.1.getD ((ret16v.1.getD (v27).toNat (0 : Int))).toNat ((0 : Int), ((0 : Int), ((0 : Int), ([] : LL))))).2.2.2).length : Int) = (0 : Int))) = false → VC10_k2 tv ret16v v27 X1 many))))) ∧ ((decide (v27 < (ret16v.1.length : Int))) = false → VC10_k1 tv K many))
def VC10 (tv : ((List (Int × (Int × (Int × LL)))) × Int)) (K : Int × Int → Prop) : Prop :=
  VC23 tv (fun (ret16v : LI × Bool) => (((!ret16v.2) = true → K ((0 : Int), (3 : Int))) ∧ ((!ret16v.2) = false → (room (tv.1.length : Int) ∧ Loop (σ := Int × LI) (fun s X => VC10_l1 tv K ret16v s.1 s.2 X) ((0 : Int), (List.replicate ((tv.1.length : Int)).toNat (0 : Int)))))))
set_option maxHeartbeats 4000000 in
theorem link10 (tv : ((List (Int × (Int × (Int × LL)))) × Int)) (K : Int × Int → Prop) (h : VC10 tv K) : ACalls Try.prog 10 [toV1 (.pr (.sl (.pr tI (.pr tI (.pr tI (.sl (.sl tI)))))) tI) tv] (fun res => ∃ y, res = (fun y => [toV1 tI y.1, toV1 tI y.2]) y ∧ K y) := by
 refine acalls_of_aw [tI, tI] [.t 2, .t 3] Try.func10 rfl rfl rfl ?_
 unfold VC10 at h
 refine sr ?_
 refine rqT 3 ⟨92, [sp 1 1], [e10_0 tv]⟩ (by kernel_rfl) ?_
 refine nsr ?_
 refine rqT 1 ⟨92, [sp 1 1, sA 15 [.p (.sl (.pr tI (.pr tI (.pr tI (.sl (.sl tI)))))) tv.1, .pI tv.2]], [e10_0 tv]⟩ (by kernel_rfl) ?_
 refine lcq (d := 16) [.d (.pr (.sl (.pr tI (.pr tI (.pr tI (.sl (.sl tI)))))) tI)] (fun ret16v => (⟨92, [sp 1 1, (16, [], .tup [.c (.pS ret16v.1), .c (.pB ret16v.2)])], [e10_0 tv]⟩ : St)) (by kernel_rfl) Try.call23 (fun _ => by kernel_rfl) (link23 tv _ h) (fun ret16v h => ?_)
 refine rqT 5 ⟨92, [sp 1 1, s1 4 (.pS ret16v.1), sB 5 ret16v.2], [e10_0 tv]⟩ (by kernel_rfl) ?_
 refine nn ?_
 refine aw_seq ?_
 refine srn 2 ⟨92, [sp 1 1, s1 4 (.pS ret16v.1), sB 20 (!ret16v.2)], [e10_0 tv]⟩ (by kernel_rfl) rfl ?_
 refine aw_cond (b := (!ret16v.2)) (by kernel_rfl) (fun hb => ?_) (fun hb => ?_)
 ·have h := h.1 hb
  refine srn 2 ⟨92, [sI 2 (0 : Int), sI 3 (3 : Int)], []⟩ (by kernel_rfl) rfl ?_
  refine aw_ret ?_
  refine thenQ_r ?_
  exact retQ_r (ob := Ts 2 True) _ (by kernel_rfl) (tsI 2 trivial) h
 ·have h := h.2 hb
  refine aw_skip ?_
  refine thenQ_n ?_
  refine sr ?_
  obtain ⟨o1, h⟩ := h
  refine rq 5 (ob := (Ts 3 (room (tv.1.length : Int) ∧ Ts 1 True))) (st' := (⟨92, [sp 1 1, s1 4 (.pS ret16v.1), e10_8], [e10_0 tv, hA 24 2 tI (List.replicate ((tv.1.length : Int)).toNat (0 : Int))]⟩ : St)) (by kernel_rfl) (tsI 3 ⟨o1, tsI 1 trivial⟩) ?_
  refine nn ?_
  refine aw_seq ?_
  refine srn 3 ⟨92, [sp 1 1, e10_8, e10_7 ret16v, e10_6 ret16v, sI 27 (0 : Int)], [e10_0 tv, hA 24 2 tI (List.replicate ((tv.1.length : Int)).toNat (0 : Int))]⟩ (by kernel_rfl) rfl ?_
  refine withJoin (σ := LI) (fun s => (⟨92, [sp 1 1, e10_8], [e10_0 tv, hA 24 2 tI s]⟩ : St)) (fun s => VC10_k1 tv K s) (fun many h => ?_) (fun rest1 => ?_)
  ·have h : VC10_k1 tv K many := h
   unfold VC10_k1 at h
   refine thenQ_n ?_
   refine aw_seq ?_
   refine sr ?_
   obtain ⟨o1, h⟩ := h
   refine rq 6 (ob := (Ts 3 (inIdx tv.2 many.length ∧ Ts 2 True))) (st' := (⟨92, [sp 1 1, e10_8, sB 86 (decide ((1099511627776 : Int) < (many.getD ((tv.2).toNat) (0 : Int))))], [e10_0 tv, e10_10 many]⟩ : St)) (by kernel_rfl) (tsI 3 ⟨o1, tsI 2 trivial⟩) ?_
   refine nn ?_
   refine aw_cond (b := (decide ((1099511627776 : Int) < (many.getD ((tv.2).toNat) (0 : Int))))) (by kernel_rfl) (fun hb => ?_) (fun hb => ?_)
   ·have h := h.1 hb
    refine srn 2 ⟨92, [sI 2 (0 : Int), sI 3 (1 : Int)], []⟩ (by kernel_rfl) rfl ?_
    refine aw_ret ?_
    refine thenQ_r ?_
    exact retQ_r (ob := Ts 2 True) _ (by kernel_rfl) (tsI 2 trivial) h
   ·have h := h.2 hb
    refine aw_skip ?_
    refine thenQ_n ?_
    refine sr ?_
    obtain ⟨o1, h⟩ := h
    refine rq 7 (ob := (Ts 3 (inIdx tv.2 many.length ∧ Ts 3 True))) (st' := (⟨92, [sI 2 (many.getD ((tv.2).toNat) (0 : Int)), sI 3 (0 : Int)], []⟩ : St)) (by kernel_rfl) (tsI 3 ⟨o1, tsI 3 trivial⟩) ?_
    refine nn ?_
    refine aw_ret ?_
    exact retQ_r (ob := Ts 2 True) _ (by kernel_rfl) (tsI 2 trivial) h
  ·refine aw_block ?_
   refine aw_loop (σ := Int × LI) (fun s => (⟨92, [sp 1 1, e10_8, e10_7 ret16v, e10_6 ret16v, sI 27 s.1], [e10_0 tv, hA 24 2 tI s.2]⟩ : St)) (fun s X => VC10_l1 tv K ret16v s.1 s.2 X) (s0 := ((0 : Int), (List.replicate ((tv.1.length : Int)).toNat (0 : Int)))) (fun s X1 h => ?_) h
   obtain ⟨v27, many⟩ := s
   have h : VC10_l1 tv K ret16v v27 many X1 := h
   unfold VC10_l1 at h
   refine srn 1 ⟨92, [sp 1 1, e10_8, e10_7 ret16v, e10_6 ret16v, sI 27 v27, sB 28 (decide (v27 < (ret16v.1.length : Int)))], [e10_0 tv, e10_10 many]⟩ (by kernel_rfl) rfl ?_
   refine aw_seq ?_
   refine aw_cond (b := (decide (v27 < (ret16v.1.length : Int)))) (by kernel_rfl) (fun hb => ?_) (fun hb => ?_)
   ·have h := h.1 hb
    refine aw_skip ?_
    refine thenQ_n ?_
    refine aw_seq ?_
    refine aw_block ?_
    refine sr ?_
    obtain ⟨o1, h⟩ := h
    refine rq 3 (ob := (inIdx v27 ret16v.1.length ∧ Ts 2 True)) (st' := (⟨92, [sp 1 1, e10_8, e10_5 ret16v v27, e10_7 ret16v, e10_6 ret16v, sI 27 v27], [e10_0 tv, e10_10 many]⟩ : St)) (by kernel_rfl) (⟨o1, tsI 2 trivial⟩) ?_
    refine nn ?_
    refine aw_seq ?_
    refine sr ?_
    obtain ⟨o1, h⟩ := h
    refine rq 8 (ob := (Ts 3 (inIdx (ret16v.1.getD (v27).toNat (0 : Int)) tv.1.length ∧ Ts 4 True))) (st' := (⟨92, [sp 1 1, e10_8, e10_5 ret16v v27, e10_7 ret16v, e10_6 ret16v, sI 27 v27, sB 38 (decide ((((tv.1.getD ((ret16v.1.getD (v27).toNat (0 : Int))).toNat ((0 : Int), ((0 : Int), ((0 : Int), ([] : LL))))).2.2.2).length : Int) = (0 : Int)))], [e10_0 tv, e10_10 many]⟩ : St)) (by kernel_rfl) (tsI 3 ⟨o1, tsI 4 trivial⟩) ?_
    refine nn ?_
    refine withJoin (σ := LI) (fun s => (⟨92, [sp 1 1, e10_8, e10_5 ret16v v27, e10_7 ret16v, e10_6 ret16v, sI 27 v27], [e10_0 tv, hA 24 2 tI s]⟩ : St)) (fun s => VC10_k2 tv ret16v v27 X1 s) (fun many2 h => ?_) (fun rest4 => ?_)
    ·have h : VC10_k2 tv ret16v v27 X1 many2 := h
     unfold VC10_k2 at h
     refine thenQ_n ?_
     refine sr ?_
     obtain ⟨o1, h⟩ := h
     refine rq 8 (ob := (Ts 3 (inIdx (ret16v.1.getD (v27).toNat (0 : Int)) tv.1.length ∧ Ts 4 True))) (st' := (⟨92, [sp 1 1, e10_8, e10_5 ret16v v27, e10_7 ret16v, e10_6 ret16v, sI 27 v27, e10_2 tv ret16v v27, e10_4 tv ret16v v27, sI 49 (0 : Int)], [e10_0 tv, hA 24 2 tI many2]⟩ : St)) (by kernel_rfl) (tsI 3 ⟨o1, tsI 4 trivial⟩) ?_
     refine nn ?_
     refine withJoin (σ := LI) (fun s => (⟨92, [sp 1 1, e10_8, e10_7 ret16v, e10_6 ret16v, sI 27 v27], [e10_0 tv, hA 24 2 tI s]⟩ : St)) (fun s => VC10_k3 v27 X1 s) (fun many3 h => ?_) (fun rest2 => ?_)
     ·have h : VC10_k3 v27 X1 many3 := h
      unfold VC10_k3 at h
      refine blockQ_n ?_
      refine thenQ_n ?_
      refine aw_region ?_
      obtain ⟨o1, h⟩ := h
      refine rq 2 (ob := (InR (v27 + (1 : Int)) ∧ Ts 1 True)) (st' := (⟨92, [sp 1 1, e10_8, e10_7 ret16v, e10_6 ret16v, sI 27 (v27 + (1 : Int))], [e10_0 tv, e10_9 many3]⟩ : St)) (by kernel_rfl) (⟨o1, tsI 1 trivial⟩) ?_
      refine awl_nil ?_
      exact thenQ_n ⟨((v27 + (1 : Int)), many3), rfl, h⟩
     ·refine aw_block ?_
      refine aw_loop (σ := Int × LI) (fun s => (⟨92, [sp 1 1, e10_8, e10_5 ret16v v27, e10_7 ret16v, e10_6 ret16v, sI 27 v27, e10_2 tv ret16v v27, e10_4 tv ret16v v27, sI 49 s.1], [e10_0 tv, hA 24 2 tI s.2]⟩ : St)) (fun s X => VC10_l2 tv ret16v v27 X1 s.1 s.2 X) (s0 := ((0 : Int), many2)) (fun s X2 h => ?_) h
      obtain ⟨v49, many3⟩ := s
      have h : VC10_l2 tv ret16v v27 X1 v49 many3 X2 := h
      unfold VC10_l2 at h
      refine srn 1 ⟨92, [sp 1 1, e10_8, e10_5 ret16v v27, e10_7 ret16v, e10_6 ret16v, sI 27 v27, e10_2 tv ret16v v27, e10_4 tv ret16v v27, sI 49 v49, sB 50 (decide (v49 < (((tv.1.getD ((ret16v.1.getD (v27).toNat (0 : Int))).toNat ((0 : Int), ((0 : Int), ((0 : Int), ([] : LL))))).2.2.2).length : Int)))], [e10_0 tv, e10_9 many3]⟩ (by kernel_rfl) rfl ?_
      refine aw_seq ?_
      refine aw_cond (b := (decide (v49 < (((tv.1.getD ((ret16v.1.getD (v27).toNat (0 : Int))).toNat ((0 : Int), ((0 : Int), ((0 : Int), ([] : LL))))).2.2.2).length : Int)))) (by kernel_rfl) (fun hb => ?_) (fun hb => ?_)
      ·have h := h.1 hb
       refine aw_skip ?_
       refine thenQ_n ?_
       refine aw_seq ?_
       refine aw_block ?_
       refine sr ?_
       obtain ⟨o1, h⟩ := h
       refine rq 3 (ob := (inIdx v49 ((tv.1.getD ((ret16v.1.getD (v27).toNat (0 : Int))).toNat ((0 : Int), ((0 : Int), ((0 : Int), ([] : LL))))).2.2.2).length ∧ Ts 2 True)) (st' := (⟨92, [sp 1 1, e10_8, e10_5 ret16v v27, s1 10 (.pS (((tv.1.getD ((ret16v.1.getD (v27).toNat (0 : Int))).toNat ((0 : Int), ((0 : Int), ((0 : Int), ([] : LL))))).2.2.2).getD (v49).toNat ([] : LI))), e10_7 ret16v, e10_6 ret16v, sI 27 v27, e10_2 tv ret16v v27, e10_4 tv ret16v v27, sI 49 v49], [e10_0 tv, e10_9 many3]⟩ : St)) (by kernel_rfl) (⟨o1, tsI 2 trivial⟩) ?_
       refine nsr ?_
       refine rqT 1 ⟨92, [sp 1 1, e10_8, e10_5 ret16v v27, s1 10 (.pS (((tv.1.getD ((ret16v.1.getD (v27).toNat (0 : Int))).toNat ((0 : Int), ((0 : Int), ((0 : Int), ([] : LL))))).2.2.2).getD (v49).toNat ([] : LI))), sI 11 (1 : Int), e10_7 ret16v, e10_6 ret16v, sI 27 v27, e10_2 tv ret16v v27, e10_4 tv ret16v v27, sI 49 v49], [e10_0 tv, e10_9 many3]⟩ (by kernel_rfl) ?_
       refine nn ?_
       refine aw_seq ?_
       refine sr ?_
       obtain ⟨o1, h⟩ := h
       refine rq 7 (ob := (Ts 4 ((0 ≤ (imin (1 : Int) ((((tv.1.getD ((ret16v.1.getD (v27).toNat (0 : Int))).toNat ((0 : Int), ((0 : Int), ((0 : Int), ([] : LL))))).2.2.2).getD (v49).toNat ([] : LI)).length : Int)) ∧ (imin (1 : Int) ((((tv.1.getD ((ret16v.1.getD (v27).toNat (0 : Int))).toNat ((0 : Int), ((0 : Int), ((0 : Int), ([] : LL))))).2.2.2).getD (v49).toNat ([] : LI)).length : Int)) ≤ ((((tv.1.getD ((ret16v.1.getD (v27).toNat (0 : Int))).toNat ((0 : Int), ((0 : Int), ((0 : Int), ([] : LL))))).2.2.2).getD (v49).toNat ([] : LI)).length : Int)) ∧ Ts 2 True))) (st' := (⟨92, [sp 1 1, e10_8, e10_5 ret16v v27, sI 11 (1 : Int), e10_7 ret16v, e10_6 ret16v, sI 27 v27, e10_2 tv ret16v v27, e10_4 tv ret16v v27, sI 49 v49, e10_3 tv ret16v v27 v49, e10_1 tv ret16v v27 v49, sI 59 (0 : Int)], [e10_0 tv, e10_9 many3]⟩ : St)) (by kernel_rfl) (tsI 4 ⟨o1, tsI 2 trivial⟩) ?_
       refine nn ?_
       refine withJoin (σ := Int) (fun s => (⟨92, [sp 1 1, e10_8, e10_5 ret16v v27, sI 11 s, e10_7 ret16v, e10_6 ret16v, sI 27 v27, e10_2 tv ret16v v27, e10_4 tv ret16v v27, sI 49 v49], [e10_0 tv, e10_9 many3]⟩ : St)) (fun s => VC10_k4 ret16v v27 v49 many3 X2 s) (fun n h => ?_) (fun rest3 => ?_)
       ·have h : VC10_k4 ret16v v27 v49 many3 X2 n := h
        unfold VC10_k4 at h
        refine thenQ_n ?_
        refine aw_region ?_
        obtain ⟨o1, h⟩ := h
        refine rq 7 (ob := (Ts 4 (inIdx (ret16v.1.getD (v27).toNat (0 : Int)) many3.length ∧ Ts 2 True))) (st' := (⟨92, [sp 1 1, e10_8, e10_5 ret16v v27, e10_7 ret16v, e10_6 ret16v, sI 27 v27, e10_2 tv ret16v v27, e10_4 tv ret16v v27, sI 49 v49, s1 70 (.own 24), sI 71 (ret16v.1.getD (v27).toNat (0 : Int)), sI 75 (many3.getD (((ret16v.1.getD (v27).toNat (0 : Int))).toNat) (0 : Int)), sI 76 n], [e10_0 tv, e10_9 many3]⟩ : St)) (by kernel_rfl) (tsI 4 ⟨o1, tsI 2 trivial⟩) ?_
        refine lcq (d := 77) [.d tI, .d tI] (fun ret77v => (⟨92, [sp 1 1, e10_8, e10_5 ret16v v27, e10_7 ret16v, e10_6 ret16v, sI 27 v27, e10_2 tv ret16v v27, e10_4 tv ret16v v27, sI 49 v49, s1 70 (.own 24), sI 71 (ret16v.1.getD (v27).toNat (0 : Int)), sI 77 ret77v], [e10_0 tv, e10_9 many3]⟩ : St)) (by kernel_rfl) Try.call25 (fun _ => by kernel_rfl) (link25 (many3.getD (((ret16v.1.getD (v27).toNat (0 : Int))).toNat) (0 : Int)) n _ h) (fun ret77v h => ?_)
        obtain ⟨o1, h⟩ := h
        refine rq 2 (ob := (inIdx (ret16v.1.getD (v27).toNat (0 : Int)) many3.length ∧ Ts 1 True)) (st' := (⟨92, [sp 1 1, e10_8, e10_5 ret16v v27, e10_7 ret16v, e10_6 ret16v, sI 27 v27, e10_2 tv ret16v v27, e10_4 tv ret16v v27, sI 49 v49], [e10_0 tv, hA 24 2 tI (many3.set (((ret16v.1.getD (v27).toNat (0 : Int))).toNat) ret77v)]⟩ : St)) (by kernel_rfl) (⟨o1, tsI 1 trivial⟩) ?_
        refine awl_nil ?_
        refine blockQ_n ?_
        refine thenQ_n ?_
        refine aw_region ?_
        obtain ⟨o1, h⟩ := h
        refine rq 2 (ob := (InR (v49 + (1 : Int)) ∧ Ts 1 True)) (st' := (⟨92, [sp 1 1, e10_8, e10_5 ret16v v27, e10_7 ret16v, e10_6 ret16v, sI 27 v27, e10_2 tv ret16v v27, e10_4 tv ret16v v27, sI 49 (v49 + (1 : Int))], [e10_0 tv, hA 24 2 tI (many3.set (((ret16v.1.getD (v27).toNat (0 : Int))).toNat) ret77v)]⟩ : St)) (by kernel_rfl) (⟨o1, tsI 1 trivial⟩) ?_
        refine awl_nil ?_
        exact thenQ_n ⟨((v49 + (1 : Int)), (many3.set (((ret16v.1.getD (v27).toNat (0 : Int))).toNat) ret77v)), rfl, h⟩
       ·refine aw_block ?_
        refine aw_loop (σ := Int × Int) (fun s => (⟨92, [sp 1 1, e10_8, e10_5 ret16v v27, sI 11 s.1, e10_7 ret16v, e10_6 ret16v, sI 27 v27, e10_2 tv ret16v v27, e10_4 tv ret16v v27, sI 49 v49, e10_3 tv ret16v v27 v49, e10_1 tv ret16v v27 v49, sI 59 s.2], [e10_0 tv, e10_9 many3]⟩ : St)) (fun s X => VC10_l3 tv ret16v v27 v49 many3 X2 s.1 s.2 X) (s0 := ((1 : Int), (0 : Int))) (fun s X3 h => ?_) h
        obtain ⟨n, v59⟩ := s
        have h : VC10_l3 tv ret16v v27 v49 many3 X2 n v59 X3 := h
        unfold VC10_l3 at h
        refine srn 1 ⟨92, [sp 1 1, e10_8, e10_5 ret16v v27, sI 11 n, e10_7 ret16v, e10_6 ret16v, sI 27 v27, e10_2 tv ret16v v27, e10_4 tv ret16v v27, sI 49 v49, e10_3 tv ret16v v27 v49, e10_1 tv ret16v v27 v49, sI 59 v59, sB 60 (decide (v59 < (((((tv.1.getD ((ret16v.1.getD (v27).toNat (0 : Int))).toNat ((0 : Int), ((0 : Int), ((0 : Int), ([] : LL))))).2.2.2).getD (v49).toNat ([] : LI)).drop ((imin (1 : Int) ((((tv.1.getD ((ret16v.1.getD (v27).toNat (0 : Int))).toNat ((0 : Int), ((0 : Int), ((0 : Int), ([] : LL))))).2.2.2).getD (v49).toNat ([] : LI)).length : Int))).toNat).length : Int)))], [e10_0 tv, e10_9 many3]⟩ (by kernel_rfl) rfl ?_
        refine aw_seq ?_
        refine aw_cond (b := (decide (v59 < (((((tv.1.getD ((ret16v.1.getD (v27).toNat (0 : Int))).toNat ((0 : Int), ((0 : Int), ((0 : Int), ([] : LL))))).2.2.2).getD (v49).toNat ([] : LI)).drop ((imin (1 : Int) ((((tv.1.getD ((ret16v.1.getD (v27).toNat (0 : Int))).toNat ((0 : Int), ((0 : Int), ((0 : Int), ([] : LL))))).2.2.2).getD (v49).toNat ([] : LI)).length : Int))).toNat).length : Int)))) (by kernel_rfl) (fun hb => ?_) (fun hb => ?_)
        ·have h := h.1 hb
         refine aw_skip ?_
         refine thenQ_n ?_
         refine aw_seq ?_
         refine aw_block ?_
         refine sr ?_
         obtain ⟨o1, h⟩ := h
         refine rq 3 (ob := (inIdx v59 ((((tv.1.getD ((ret16v.1.getD (v27).toNat (0 : Int))).toNat ((0 : Int), ((0 : Int), ((0 : Int), ([] : LL))))).2.2.2).getD (v49).toNat ([] : LI)).drop ((imin (1 : Int) ((((tv.1.getD ((ret16v.1.getD (v27).toNat (0 : Int))).toNat ((0 : Int), ((0 : Int), ((0 : Int), ([] : LL))))).2.2.2).getD (v49).toNat ([] : LI)).length : Int))).toNat).length ∧ Ts 2 True)) (st' := (⟨92, [sp 1 1, e10_8, e10_5 ret16v v27, sI 11 n, sI 13 (((((tv.1.getD ((ret16v.1.getD (v27).toNat (0 : Int))).toNat ((0 : Int), ((0 : Int), ((0 : Int), ([] : LL))))).2.2.2).getD (v49).toNat ([] : LI)).drop ((imin (1 : Int) ((((tv.1.getD ((ret16v.1.getD (v27).toNat (0 : Int))).toNat ((0 : Int), ((0 : Int), ((0 : Int), ([] : LL))))).2.2.2).getD (v49).toNat ([] : LI)).length : Int))).toNat).getD (v59).toNat (0 : Int)), e10_7 ret16v, e10_6 ret16v, sI 27 v27, e10_2 tv ret16v v27, e10_4 tv ret16v v27, sI 49 v49, e10_3 tv ret16v v27 v49, e10_1 tv ret16v v27 v49, sI 59 v59], [e10_0 tv, e10_9 many3]⟩ : St)) (by kernel_rfl) (⟨o1, tsI 2 trivial⟩) ?_
         refine nn ?_
         refine aw_region ?_
         obtain ⟨o1, h⟩ := h
         refine rq 5 (ob := (Ts 3 (inIdx (((((tv.1.getD ((ret16v.1.getD (v27).toNat (0 : Int))).toNat ((0 : Int), ((0 : Int), ((0 : Int), ([] : LL))))).2.2.2).getD (v49).toNat ([] : LI)).drop ((imin (1 : Int) ((((tv.1.getD ((ret16v.1.getD (v27).toNat (0 : Int))).toNat ((0 : Int), ((0 : Int), ((0 : Int), ([] : LL))))).2.2.2).getD (v49).toNat ([] : LI)).length : Int))).toNat).getD (v59).toNat (0 : Int)) many3.length ∧ Ts 1 True))) (st' := (⟨92, [sp 1 1, e10_8, e10_5 ret16v v27, e10_7 ret16v, e10_6 ret16v, sI 27 v27, e10_2 tv ret16v v27, e10_4 tv ret16v v27, sI 49 v49, e10_3 tv ret16v v27 v49, e10_1 tv ret16v v27 v49, sI 59 v59, sI 63 n, sI 67 (many3.getD (((((((tv.1.getD ((ret16v.1.getD (v27).toNat (0 : Int))).toNat ((0 : Int), ((0 : Int), ((0 : Int), ([] : LL))))).2.2.2).getD (v49).toNat ([] : LI)).drop ((imin (1 : Int) ((((tv.1.getD ((ret16v.1.getD (v27).toNat (0 : Int))).toNat ((0 : Int), ((0 : Int), ((0 : Int), ([] : LL))))).2.2.2).getD (v49).toNat ([] : LI)).length : Int))).toNat).getD (v59).toNat (0 : Int))).toNat) (0 : Int))], [e10_0 tv, e10_9 many3]⟩ : St)) (by kernel_rfl) (tsI 3 ⟨o1, tsI 1 trivial⟩) ?_
         refine lcq (d := 68) [.d tI, .d tI] (fun ret68v => (⟨92, [sp 1 1, e10_8, e10_5 ret16v v27, e10_7 ret16v, e10_6 ret16v, sI 27 v27, e10_2 tv ret16v v27, e10_4 tv ret16v v27, sI 49 v49, e10_3 tv ret16v v27 v49, e10_1 tv ret16v v27 v49, sI 59 v59, sI 68 ret68v], [e10_0 tv, e10_9 many3]⟩ : St)) (by kernel_rfl) Try.call24 (fun _ => by kernel_rfl) (link24 n (many3.getD (((((((tv.1.getD ((ret16v.1.getD (v27).toNat (0 : Int))).toNat ((0 : Int), ((0 : Int), ((0 : Int), ([] : LL))))).2.2.2).getD (v49).toNat ([] : LI)).drop ((imin (1 : Int) ((((tv.1.getD ((ret16v.1.getD (v27).toNat (0 : Int))).toNat ((0 : Int), ((0 : Int), ((0 : Int), ([] : LL))))).2.2.2).getD (v49).toNat ([] : LI)).length : Int))).toNat).getD (v59).toNat (0 : Int))).toNat) (0 : Int)) _ h) (fun ret68v h => ?_)
         refine rqT 1 ⟨92, [sp 1 1, e10_8, e10_5 ret16v v27, sI 11 ret68v, e10_7 ret16v, e10_6 ret16v, sI 27 v27, e10_2 tv ret16v v27, e10_4 tv ret16v v27, sI 49 v49, e10_3 tv ret16v v27 v49, e10_1 tv ret16v v27 v49, sI 59 v59], [e10_0 tv, e10_9 many3]⟩ (by kernel_rfl) ?_
         refine awl_nil ?_
         refine blockQ_n ?_
         refine thenQ_n ?_
         refine aw_region ?_
         obtain ⟨o1, h⟩ := h
         refine rq 2 (ob := (InR (v59 + (1 : Int)) ∧ Ts 1 True)) (st' := (⟨92, [sp 1 1, e10_8, e10_5 ret16v v27, sI 11 ret68v, e10_7 ret16v, e10_6 ret16v, sI 27 v27, e10_2 tv ret16v v27, e10_4 tv ret16v v27, sI 49 v49, e10_3 tv ret16v v27 v49, e10_1 tv ret16v v27 v49, sI 59 (v59 + (1 : Int))], [e10_0 tv, e10_9 many3]⟩ : St)) (by kernel_rfl) (⟨o1, tsI 1 trivial⟩) ?_
         refine awl_nil ?_
         exact thenQ_n ⟨(ret68v, (v59 + (1 : Int))), rfl, h⟩
        ·have h := h.2 hb
         refine cpr (st' := (⟨92, [sp 1 1, e10_8, e10_5 ret16v v27, sI 11 n, e10_7 ret16v, e10_6 ret16v, sI 27 v27, e10_2 tv ret16v v27, e10_4 tv ret16v v27, sI 49 v49], [e10_0 tv, e10_9 many3]⟩ : St)) (by kernel_rfl) ?_
         refine aw_exit ?_
         refine thenQ_x ?_
         refine thenQ_x ?_
         refine blockQ_hit ?_
         exact rest3 n h
      ·have h := h.2 hb
       refine cpr (st' := (⟨92, [sp 1 1, e10_8, e10_7 ret16v, e10_6 ret16v, sI 27 v27], [e10_0 tv, e10_9 many3]⟩ : St)) (by kernel_rfl) ?_
       refine aw_exit ?_
       refine thenQ_x ?_
       refine thenQ_x ?_
       refine blockQ_hit ?_
       exact rest2 many3 h
    ·refine aw_cond (b := (decide ((((tv.1.getD ((ret16v.1.getD (v27).toNat (0 : Int))).toNat ((0 : Int), ((0 : Int), ((0 : Int), ([] : LL))))).2.2.2).length : Int) = (0 : Int)))) (by kernel_rfl) (fun hb => ?_) (fun hb => ?_)
     ·have h := h.1 hb
      refine aw_region ?_
      obtain ⟨o1, h⟩ := h
      refine rq 4 (ob := (Ts 2 (inIdx (ret16v.1.getD (v27).toNat (0 : Int)) many.length ∧ Ts 1 True))) (st' := (⟨92, [sp 1 1, e10_8, e10_5 ret16v v27, e10_7 ret16v, e10_6 ret16v, sI 27 v27], [e10_0 tv, hA 24 2 tI (many.set (((ret16v.1.getD (v27).toNat (0 : Int))).toNat) (1 : Int))]⟩ : St)) (by kernel_rfl) (tsI 2 ⟨o1, tsI 1 trivial⟩) ?_
      refine awl_nil ?_
      exact rest4 (many.set (((ret16v.1.getD (v27).toNat (0 : Int))).toNat) (1 : Int)) h
     ·have h := h.2 hb
      refine cpr (st' := (⟨92, [sp 1 1, e10_8, e10_5 ret16v v27, e10_7 ret16v, e10_6 ret16v, sI 27 v27], [e10_0 tv, e10_10 many]⟩ : St)) (by kernel_rfl) ?_
      refine aw_skip ?_
      exact rest4 many h
   ·have h := h.2 hb
    refine cpr (st' := (⟨92, [sp 1 1, e10_8], [e10_0 tv, e10_10 many]⟩ : St)) (by kernel_rfl) ?_
    refine aw_exit ?_
    refine thenQ_x ?_
    refine thenQ_x ?_
    refine blockQ_hit ?_
    exact rest1 many h
abbrev e4_0 (ret16v : ((List (Int × (Int × (Int × LL)))) × Int) × Int) : Nat × Path × Con := hB 5 [.p (.sl (.pr tI (.pr tI (.pr tI (.sl (.sl tI)))))) ret16v.1.1, .pI ret16v.1.2]
abbrev e4_1 (g : TG) : Nat × Path × Con := hB 2 [.pI g.1, .pI g.2.1, .pI g.2.2.1, .p (.sl tR) g.2.2.2]
-- coppicer/coppicerkeep.ThicketCount
def VC4 (g : TG) (w : LI) (K : Bool → Prop) : Prop :=
  VC6 g w (fun (ret16v : ((List (Int × (Int × (Int × LL)))) × Int) × Int) => VC9 g w (fun (ret22v : Int × Int) => VC7 g w (fun (ret28v : Int × Bool) => ((((!ret28v.2) || (decide (ret28v.1 = (0 : Int)))) = true → K ((!decide (ret16v.2 = (0 : Int))) && ((decide (ret22v.2 = (0 : Int))) == ret28v.2))) ∧ (((!ret28v.2) || (decide (ret28v.1 = (0 : Int)))) = false → (((!decide (ret16v.2 = (0 : Int))) = true → K ((decide (ret16v.2 = (1 : Int))) && (decide ((ret16v.1.1.length : Int) = (0 : Int))))) ∧ ((!decide (ret16v.2 = (0 : Int))) = false → VC10 ret16v.1 (fun (ret57v : Int × Int) => K ((((decide (ret22v.2 = ret57v.2)) && (decide (ret57v.1 = ret22v.1))) && ((decide (ret22v.2 = (0 : Int))) || (decide (ret22v.2 = (1 : Int))))) && ((!decide (ret22v.2 = (0 : Int))) || (decide (ret22v.1 = ret28v.1))))))))))))
set_option maxHeartbeats 4000000 in
theorem link4 (g : TG) (w : LI) (K : Bool → Prop) (h : VC4 g w K) : ACalls Try.prog 4 [toV1 tG g, toV1 (.sl tI) w] (fun res => ∃ y, res = (fun y => [toV1 .bool y]) y ∧ K y) := by
 refine acalls_of_aw [.bool] [.t 4] Try.func4 rfl rfl rfl ?_
 unfold VC4 at h
 refine sr ?_
 refine rqT 2 ⟨85, [s1 1 (.pS w), sp 2 2], [e4_1 g]⟩ (by kernel_rfl) ?_
 refine nsr ?_
 refine rqT 2 ⟨85, [s1 1 (.pS w), sp 2 2, sA 14 [.pI g.1, .pI g.2.1, .pI g.2.2.1, .p (.sl tR) g.2.2.2], s1 15 (.pS w)], [e4_1 g]⟩ (by kernel_rfl) ?_
 refine lcq (d := 16) [.d tG, .d (.sl tI)] (fun ret16v => (⟨85, [s1 1 (.pS w), sp 2 2, (16, [], .tup [.agg [.p (.sl (.pr tI (.pr tI (.pr tI (.sl (.sl tI)))))) ret16v.1.1, .pI ret16v.1.2], .c (.pI ret16v.2)])], [e4_1 g]⟩ : St)) (by kernel_rfl) Try.call6 (fun _ => by kernel_rfl) (link6 g w _ h) (fun ret16v h => ?_)
 refine rqT 6 ⟨85, [s1 1 (.pS w), sp 2 2, sp 5 5, sI 6 ret16v.2], [e4_1 g, e4_0 ret16v]⟩ (by kernel_rfl) ?_
 refine nsr ?_
 refine rqT 2 ⟨85, [s1 1 (.pS w), sp 2 2, sp 5 5, sI 6 ret16v.2, sA 20 [.pI g.1, .pI g.2.1, .pI g.2.2.1, .p (.sl tR) g.2.2.2], s1 21 (.pS w)], [e4_1 g, e4_0 ret16v]⟩ (by kernel_rfl) ?_
 refine lcq (d := 22) [.d tG, .d (.sl tI)] (fun ret22v => (⟨85, [s1 1 (.pS w), sp 2 2, sp 5 5, sI 6 ret16v.2, (22, [], .tup [.c (.pI ret22v.1), .c (.pI ret22v.2)])], [e4_1 g, e4_0 ret16v]⟩ : St)) (by kernel_rfl) Try.call9 (fun _ => by kernel_rfl) (link9 g w _ h) (fun ret22v h => ?_)
 refine rqT 5 ⟨85, [s1 1 (.pS w), sp 2 2, sp 5 5, sI 6 ret16v.2, sI 7 ret22v.1, sI 8 ret22v.2], [e4_1 g, e4_0 ret16v]⟩ (by kernel_rfl) ?_
 refine nsr ?_
 refine rqT 2 ⟨85, [sp 5 5, sI 6 ret16v.2, sI 7 ret22v.1, sI 8 ret22v.2, sA 26 [.pI g.1, .pI g.2.1, .pI g.2.2.1, .p (.sl tR) g.2.2.2], s1 27 (.pS w)], [e4_0 ret16v]⟩ (by kernel_rfl) ?_
 refine lcq (d := 28) [.d tG, .d (.sl tI)] (fun ret28v => (⟨85, [sp 5 5, sI 6 ret16v.2, sI 7 ret22v.1, sI 8 ret22v.2, (28, [], .tup [.c (.pI ret28v.1), .c (.pB ret28v.2)])], [e4_0 ret16v]⟩ : St)) (by kernel_rfl) Try.call7 (fun _ => by kernel_rfl) (link7 g w _ h) (fun ret28v h => ?_)
 refine rqT 5 ⟨85, [sp 5 5, sI 6 ret16v.2, sI 7 ret22v.1, sI 8 ret22v.2, sI 9 ret28v.1, sB 10 ret28v.2], [e4_0 ret16v]⟩ (by kernel_rfl) ?_
 refine nn ?_
 refine aw_seq ?_
 refine sr ?_
 refine rq 6 (ob := (Ts 3 (Ti 2 ((!ret28v.2) = false → True) (Ts 1 True)))) (st' := (⟨85, [sp 5 5, sI 6 ret16v.2, sI 7 ret22v.1, sI 8 ret22v.2, sI 9 ret28v.1, sB 10 ret28v.2, sB 36 ((!ret28v.2) || (decide (ret28v.1 = (0 : Int))))], [e4_0 ret16v]⟩ : St)) (by kernel_rfl) (tsI 3 (tiI 2 (fun _ => trivial) (tsI 1 trivial))) ?_
 refine nn ?_
 refine aw_cond (b := ((!ret28v.2) || (decide (ret28v.1 = (0 : Int))))) (by kernel_rfl) (fun hb => ?_) (fun hb => ?_)
 ·have h := h.1 hb
  refine sr ?_
  refine rq 9 (ob := (Ts 3 (Ti 4 ((!decide (ret16v.2 = (0 : Int))) = true → True) (Ts 2 True)))) (st' := (⟨85, [sB 4 ((!decide (ret16v.2 = (0 : Int))) && ((decide (ret22v.2 = (0 : Int))) == ret28v.2))], []⟩ : St)) (by kernel_rfl) (tsI 3 (tiI 4 (fun _ => trivial) (tsI 2 trivial))) ?_
  refine nn ?_
  refine aw_ret ?_
  refine thenQ_r ?_
  exact retQ_r (ob := Ts 1 True) _ (by kernel_rfl) (tsI 1 trivial) h
 ·have h := h.2 hb
  refine aw_skip ?_
  refine thenQ_n ?_
  refine aw_seq ?_
  refine srn 2 ⟨85, [sp 5 5, sI 6 ret16v.2, sI 7 ret22v.1, sI 8 ret22v.2, sI 9 ret28v.1, sB 46 (!decide (ret16v.2 = (0 : Int)))], [e4_0 ret16v]⟩ (by kernel_rfl) rfl ?_
  refine aw_cond (b := (!decide (ret16v.2 = (0 : Int)))) (by kernel_rfl) (fun hb => ?_) (fun hb => ?_)
  ·have h := h.1 hb
   refine sr ?_
   refine rq 9 (ob := (Ts 3 (Ti 4 ((decide (ret16v.2 = (1 : Int))) = true → True) (Ts 2 True)))) (st' := (⟨85, [sB 4 ((decide (ret16v.2 = (1 : Int))) && (decide ((ret16v.1.1.length : Int) = (0 : Int))))], []⟩ : St)) (by kernel_rfl) (tsI 3 (tiI 4 (fun _ => trivial) (tsI 2 trivial))) ?_
   refine nn ?_
   refine aw_ret ?_
   refine thenQ_r ?_
   exact retQ_r (ob := Ts 1 True) _ (by kernel_rfl) (tsI 1 trivial) h
  ·have h := h.2 hb
   refine aw_skip ?_
   refine thenQ_n ?_
   refine sr ?_
   refine rqT 1 ⟨85, [sI 7 ret22v.1, sI 8 ret22v.2, sI 9 ret28v.1, sA 56 [.p (.sl (.pr tI (.pr tI (.pr tI (.sl (.sl tI)))))) ret16v.1.1, .pI ret16v.1.2]], []⟩ (by kernel_rfl) ?_
   refine lcq (d := 57) [.d (.pr (.sl (.pr tI (.pr tI (.pr tI (.sl (.sl tI)))))) tI)] (fun ret57v => (⟨85, [sI 7 ret22v.1, sI 8 ret22v.2, sI 9 ret28v.1, (57, [], .tup [.c (.pI ret57v.1), .c (.pI ret57v.2)])], []⟩ : St)) (by kernel_rfl) Try.call10 (fun _ => by kernel_rfl) (link10 ret16v.1 _ h) (fun ret57v h => ?_)
   refine rqT 5 ⟨85, [sI 7 ret22v.1, sI 8 ret22v.2, sI 9 ret28v.1, sI 11 ret57v.1, sI 12 ret57v.2], []⟩ (by kernel_rfl) ?_
   refine nsr ?_
   refine rq 26 (ob := (Ts 4 (Ti 3 ((decide (ret22v.2 = ret57v.2)) = true → True) (Ts 2 (Ti 3 (((decide (ret22v.2 = ret57v.2)) && (decide (ret57v.1 = ret22v.1))) = true → True) ((((decide (ret22v.2 = ret57v.2)) && (decide (ret57v.1 = ret22v.1))) = true → ((decide (ret22v.2 = (0 : Int))) = false → True)) ∧ (((decide (ret22v.2 = ret57v.2)) && (decide (ret57v.1 = ret22v.1))) = true → ((decide (ret22v.2 = (0 : Int))) = false → True)) ∧ (((decide (ret22v.2 = ret57v.2)) && (decide (ret57v.1 = ret22v.1))) = true → True) ∧ Ts 2 (Ti 3 ((((decide (ret22v.2 = ret57v.2)) && (decide (ret57v.1 = ret22v.1))) && ((decide (ret22v.2 = (0 : Int))) || (decide (ret22v.2 = (1 : Int))))) = true → True) (((((decide (ret22v.2 = ret57v.2)) && (decide (ret57v.1 = ret22v.1))) && ((decide (ret22v.2 = (0 : Int))) || (decide (ret22v.2 = (1 : Int))))) = true → ((!decide (ret22v.2 = (0 : Int))) = false → True)) ∧ ((((decide (ret22v.2 = ret57v.2)) && (decide (ret57v.1 = ret22v.1))) && ((decide (ret22v.2 = (0 : Int))) || (decide (ret22v.2 = (1 : Int))))) = true → ((!decide (ret22v.2 = (0 : Int))) = false → True)) ∧ ((((decide (ret22v.2 = ret57v.2)) && (decide (ret57v.1 = ret22v.1))) && ((decide (ret22v.2 = (0 : Int))) || (decide (ret22v.2 = (1 : Int))))) = true → ((!decide (ret22v.2 = (0 : Int))) = false → True)) ∧ ((((decide (ret22v.2 = ret57v.2)) && (decide (ret57v.1 = ret22v.1))) && ((decide (ret22v.2 = (0 : Int))) || (decide (ret22v.2 = (1 : Int))))) = true → True) ∧ Ts 2 True)))))))) (st' := (⟨85, [sB 4 ((((decide (ret22v.2 = ret57v.2)) && (decide (ret57v.1 = ret22v.1))) && ((decide (ret22v.2 = (0 : Int))) || (decide (ret22v.2 = (1 : Int))))) && ((!decide (ret22v.2 = (0 : Int))) || (decide (ret22v.1 = ret28v.1))))], []⟩ : St)) (by kernel_rfl) (tsI 4 (tiI 3 (fun _ => trivial) (tsI 2 (tiI 3 (fun _ => trivial) (tiI 2 (fun _ _ => trivial) (⟨(fun _ => trivial), tsI 2 (tiI 3 (fun _ => trivial) (tiI 3 (fun _ _ => trivial) ⟨(fun _ => trivial), tsI 2 trivial⟩))⟩)))))) ?_
   refine nn ?_
   refine aw_ret ?_
   exact retQ_r (ob := Ts 1 True) _ (by kernel_rfl) (tsI 1 trivial) h
end Dec
