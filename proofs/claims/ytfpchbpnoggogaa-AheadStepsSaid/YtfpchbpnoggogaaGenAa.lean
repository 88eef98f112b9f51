/-
  Printed by dec2.py: of each function its plain demand, and that the demand gives the contract.
-/
import Derived.Test.YtfpchbpnoggogaaProg
import Derived.Test.YtfpchbpnoggogaaDecRh
set_option linter.unusedVariables false
set_option linter.unusedSimpArgs false
set_option maxRecDepth 100000
namespace Dec
open Go Go.RowKit Go.Proofs
-- coppicer/grammar.Check$1
def VC79 (n : Int) (low : Int) (high : Int) (K : Bool → Prop) : Prop :=
  K ((decide (low ≤ n)) && (decide (n ≤ high)))
set_option maxHeartbeats 4000000 in
theorem link79 (n : Int) (low : Int) (high : Int) (K : Bool → Prop) (h : VC79 n low high K) : ACalls Try.prog 79 [toV1 tI n, toV1 tI low, toV1 tI high] (fun res => ∃ y, res = (fun y => [toV1 .bool y]) y ∧ K y) := by
 refine acalls_of_aw [.bool] [.t 6] Try.func79 rfl rfl rfl ?_
 unfold VC79 at h
 refine sr ?_
 refine rqT 1 ⟨15, [sI 0 n, sI 1 low, sI 2 high], []⟩ (by kernel_rfl) ?_
 refine nsr ?_
 refine rq 9 (ob := (Ts 4 (Ti 3 ((decide (low ≤ n)) = true → True) (Ts 2 True)))) (st' := (⟨15, [sB 6 ((decide (low ≤ n)) && (decide (n ≤ high)))], []⟩ : St)) (by kernel_rfl) (tsI 4 (tiI 3 (fun _ => trivial) (tsI 2 trivial))) ?_
 refine nn ?_
 refine aw_ret ?_
 exact retQ_r (ob := Ts 1 True) _ (by kernel_rfl) (tsI 1 trivial) h
abbrev e55_0 (sv : LR) : Nat × Path × AV := s1 0 (.p (.sl tR) sv)
abbrev e55_1 (sv : LR) : Nat × Path × AV := sI 7 (sv.length : Int)
-- slices.IndexFunc[[]coppicer/api.Rule,coppicer/api.Rule]
def VC55_k1 (K : Int → Prop) : Prop :=
  K (-1 : Int)
def VC55_l1 (sv : LR) (F1 : (Int × LI) → (Bool → Prop) → Prop) (K : Int → Prop) (v8 : Int) (X1 : Int → Prop) : Prop :=
  (((decide (v8 < (sv.length : Int))) = true → (inIdx v8 sv.length ∧ F1 (sv.getD (v8).toNat ((0 : Int), ([] : LI))) (fun (ret16v : Bool) => ((ret16v = true → K v8) ∧ (ret16v = false → (InR (v8 + (1 : Int)) ∧ X1 (v8 + (1 : Int)))))))) ∧ ((decide (v8 < (sv.length : Int))) = false → VC55_k1 K))
def VC55 (sv : LR) (F1 : (Int × LI) → (Bool → Prop) → Prop) (K : Int → Prop) : Prop :=
  Loop (σ := Int) (fun s X => VC55_l1 sv F1 K s X) (0 : Int)
set_option maxHeartbeats 4000000 in
theorem link55 (sv : LR) (fv1 : FuncId) (cv1 : List Dat) (F1 : (Int × LI) → (Bool → Prop) → Prop) (hF1 : FnIs Try.prog fv1 cv1 (fun (x : (Int × LI)) => [toV1 tR x]) (fun (y : Bool) => [toV1 .bool y]) F1) (K : Int → Prop) (h : VC55 sv F1 K) : ACalls Try.prog 55 [toV1 (.sl tR) sv, .c (.fn fv1 cv1)] (fun res => ∃ y, res = (fun y => [toV1 tI y]) y ∧ K y) := by
 refine acalls_of_aw [tI] [.t 4] Try.func55 rfl rfl rfl ?_
 unfold VC55 at h
 refine srn 1 ⟨19, [e55_0 sv, s1 1 (.fn fv1 cv1)], []⟩ (by kernel_rfl) rfl ?_
 refine aw_seq ?_
 refine srn 3 ⟨19, [e55_0 sv, s1 1 (.fn fv1 cv1), e55_1 sv, sI 8 (0 : Int)], []⟩ (by kernel_rfl) rfl ?_
 refine withJoin (σ := Unit) (fun s => (⟨19, [], []⟩ : St)) (fun s => VC55_k1 K) (fun s h => ?_) (fun rest1 => ?_)
 ·have h : VC55_k1 K := h
  unfold VC55_k1 at h
  refine thenQ_n ?_
  refine srn 1 ⟨19, [sI 4 (-1 : Int)], []⟩ (by kernel_rfl) rfl ?_
  refine aw_ret ?_
  exact retQ_r (ob := Ts 1 True) _ (by kernel_rfl) (tsI 1 trivial) h
 ·refine aw_block ?_
  refine aw_loop (σ := Int) (fun s => (⟨19, [e55_0 sv, s1 1 (.fn fv1 cv1), e55_1 sv, sI 8 s], []⟩ : St)) (fun s X => VC55_l1 sv F1 K s X) (s0 := (0 : Int)) (fun v8 X1 h => ?_) h
  have h : VC55_l1 sv F1 K v8 X1 := h
  unfold VC55_l1 at h
  refine srn 1 ⟨19, [e55_0 sv, s1 1 (.fn fv1 cv1), e55_1 sv, sI 8 v8, sB 9 (decide (v8 < (sv.length : Int)))], []⟩ (by kernel_rfl) rfl ?_
  refine aw_seq ?_
  refine aw_cond (b := (decide (v8 < (sv.length : Int)))) (by kernel_rfl) (fun hb => ?_) (fun hb => ?_)
  ·have h := h.1 hb
   refine aw_skip ?_
   refine thenQ_n ?_
   refine aw_seq ?_
   refine aw_block ?_
   refine sr ?_
   refine rqT 2 ⟨19, [e55_0 sv, s1 1 (.fn fv1 cv1), sI 5 v8, e55_1 sv, sI 8 v8], []⟩ (by kernel_rfl) ?_
   refine nsr ?_
   obtain ⟨o1, h⟩ := h
   refine rq 5 (ob := (Ts 3 (inIdx v8 sv.length ∧ Ts 1 True))) (st' := (⟨19, [e55_0 sv, s1 1 (.fn fv1 cv1), sI 5 v8, e55_1 sv, sI 8 v8, s1 11 (.fn fv1 cv1), sA 15 [.pI ((sv.getD (v8).toNat ((0 : Int), ([] : LI))).1), .pS ((sv.getD (v8).toNat ((0 : Int), ([] : LI))).2)]], []⟩ : St)) (by kernel_rfl) (tsI 3 ⟨o1, tsI 1 trivial⟩) ?_
   refine lcq (d := 16) [.d tR] (fun ret16v => (⟨19, [e55_0 sv, s1 1 (.fn fv1 cv1), sI 5 v8, e55_1 sv, sI 8 v8, sB 16 ret16v], []⟩ : St)) (by kernel_rfl) hF1.1 (fun _ => by kernel_rfl) (hF1.2 (sv.getD (v8).toNat ((0 : Int), ([] : LI))) _ h) (fun ret16v h => ?_)
   refine nn ?_
   refine aw_cond (b := ret16v) (by kernel_rfl) (fun hb => ?_) (fun hb => ?_)
   ·have h := h.1 hb
    refine srn 2 ⟨19, [sI 4 v8], []⟩ (by kernel_rfl) rfl ?_
    refine aw_ret ?_
    refine blockQ_r ?_
    refine thenQ_r ?_
    refine thenQ_r ?_
    refine blockQ_r ?_
    refine thenQ_r ?_
    exact retQ_r (ob := Ts 1 True) _ (by kernel_rfl) (tsI 1 trivial) h
   ·have h := h.2 hb
    refine aw_skip ?_
    refine blockQ_n ?_
    refine thenQ_n ?_
    refine aw_region ?_
    obtain ⟨o1, h⟩ := h
    refine rq 2 (ob := (InR (v8 + (1 : Int)) ∧ Ts 1 True)) (st' := (⟨19, [e55_0 sv, s1 1 (.fn fv1 cv1), e55_1 sv, sI 8 (v8 + (1 : Int))], []⟩ : St)) (by kernel_rfl) (⟨o1, tsI 1 trivial⟩) ?_
    refine awl_nil ?_
    exact thenQ_n ⟨(v8 + (1 : Int)), rfl, h⟩
  ·have h := h.2 hb
   refine cpr (st' := (⟨19, [], []⟩ : St)) (by kernel_rfl) ?_
   refine aw_exit ?_
   refine thenQ_x ?_
   refine thenQ_x ?_
   refine blockQ_hit ?_
   exact rest1 () h
-- slices.ContainsFunc[[]coppicer/api.Rule,coppicer/api.Rule]
def VC77 (sv : LR) (F1 : (Int × LI) → (Bool → Prop) → Prop) (K : Bool → Prop) : Prop :=
  VC55 sv F1 (fun (ret7v : Int) => K (decide ((0 : Int) ≤ ret7v)))
set_option maxHeartbeats 4000000 in
theorem link77 (sv : LR) (fv1 : FuncId) (cv1 : List Dat) (F1 : (Int × LI) → (Bool → Prop) → Prop) (hF1 : FnIs Try.prog fv1 cv1 (fun (x : (Int × LI)) => [toV1 tR x]) (fun (y : Bool) => [toV1 .bool y]) F1) (K : Bool → Prop) (h : VC77 sv F1 K) : ACalls Try.prog 77 [toV1 (.sl tR) sv, .c (.fn fv1 cv1)] (fun res => ∃ y, res = (fun y => [toV1 .bool y]) y ∧ K y) := by
 refine acalls_of_aw [.bool] [.t 4] Try.func77 rfl rfl rfl ?_
 unfold VC77 at h
 refine sr ?_
 refine rqT 1 ⟨9, [s1 0 (.p (.sl tR) sv), s1 1 (.fn fv1 cv1)], []⟩ (by kernel_rfl) ?_
 refine nsr ?_
 refine rqT 2 ⟨9, [s1 5 (.p (.sl tR) sv), s1 6 (.fn fv1 cv1)], []⟩ (by kernel_rfl) ?_
 refine lcq (d := 7) [.d (.sl tR), .fn] (fun ret7v => (⟨9, [sI 7 ret7v], []⟩ : St)) (by kernel_rfl) Try.call55 (fun _ => by kernel_rfl) (link55 sv fv1 cv1 F1 hF1 _ h) (fun ret7v h => ?_)
 refine rqT 2 ⟨9, [sB 4 (decide ((0 : Int) ≤ ret7v))], []⟩ (by kernel_rfl) ?_
 refine nn ?_
 refine aw_ret ?_
 exact retQ_r (ob := Ts 1 True) _ (by kernel_rfl) (tsI 1 trivial) h
-- coppicer/grammar.Check$2
def VC80 (rv : (Int × LI)) (K : Bool → Prop) : Prop :=
  K (decide ((4 : Int) < (rv.2.length : Int)))
set_option maxHeartbeats 4000000 in
theorem link80 (rv : (Int × LI)) (K : Bool → Prop) (h : VC80 rv K) : ACalls Try.prog 80 [toV1 tR rv] (fun res => ∃ y, res = (fun y => [toV1 .bool y]) y ∧ K y) := by
 refine acalls_of_aw [.bool] [.t 2] Try.func80 rfl rfl rfl ?_
 unfold VC80 at h
 refine sr ?_
 refine rqT 2 ⟨7, [sp 1 1], [hB 1 [.pI rv.1, .pS rv.2]]⟩ (by kernel_rfl) ?_
 refine nsr ?_
 refine rqT 5 ⟨7, [sB 2 (decide ((4 : Int) < (rv.2.length : Int)))], []⟩ (by kernel_rfl) ?_
 refine nn ?_
 refine aw_ret ?_
 exact retQ_r (ob := Ts 1 True) _ (by kernel_rfl) (tsI 1 trivial) h
-- coppicer/grammar.IsSigns$1
def VC107 (sv : Int) (a1 : TG) (K : Bool → Prop) : Prop :=
  (((decide (sv < (0 : Int))) = false → InR (a1.1 + a1.2.1)) ∧ K ((decide (sv < (0 : Int))) || (decide ((a1.1 + a1.2.1) ≤ sv))))
set_option maxHeartbeats 4000000 in
theorem link107 (sv : Int) (a1 : TG) (K : Bool → Prop) (h : VC107 sv a1 K) : ACalls Try.prog 107 [toV1 tI sv, .c (.ad tG a1)] (fun res => ∃ y, res = (fun y => [toV1 .bool y]) y ∧ K y) := by
 refine acalls_of_aw [.bool] [.t 3] Try.func107 rfl rfl rfl ?_
 unfold VC107 at h
 refine sr ?_
 refine rqT 1 ⟨15, [sI 0 sv, s1 1 (.ad tG a1)], []⟩ (by kernel_rfl) ?_
 refine nsr ?_
 obtain ⟨o1, h⟩ := h
 refine rq 12 (ob := (Ts 3 (Ti 5 ((decide (sv < (0 : Int))) = false → True) (((decide (sv < (0 : Int))) = false → InR (a1.1 + a1.2.1)) ∧ ((decide (sv < (0 : Int))) = false → True) ∧ Ts 2 True)))) (st' := (⟨15, [sB 3 ((decide (sv < (0 : Int))) || (decide ((a1.1 + a1.2.1) ≤ sv)))], []⟩ : St)) (by kernel_rfl) (tsI 3 (tiI 5 (fun _ => trivial) (⟨o1, ⟨(fun _ => trivial), tsI 2 trivial⟩⟩))) ?_
 refine nn ?_
 refine aw_ret ?_
 exact retQ_r (ob := Ts 1 True) _ (by kernel_rfl) (tsI 1 trivial) h
abbrev e88_0 (sv : LI) : Nat × Path × AV := sI 7 (sv.length : Int)
-- slices.IndexFunc[[]int,int]
def VC88_k1 (K : Int → Prop) : Prop :=
  K (-1 : Int)
def VC88_l1 (sv : LI) (F1 : Int → (Bool → Prop) → Prop) (K : Int → Prop) (v8 : Int) (X1 : Int → Prop) : Prop :=
  (((decide (v8 < (sv.length : Int))) = true → (inIdx v8 sv.length ∧ F1 (sv.getD (v8).toNat (0 : Int)) (fun (ret16v : Bool) => ((ret16v = true → K v8) ∧ (ret16v = false → (InR (v8 + (1 : Int)) ∧ X1 (v8 + (1 : Int)))))))) ∧ ((decide (v8 < (sv.length : Int))) = false → VC88_k1 K))
def VC88 (sv : LI) (F1 : Int → (Bool → Prop) → Prop) (K : Int → Prop) : Prop :=
  Loop (σ := Int) (fun s X => VC88_l1 sv F1 K s X) (0 : Int)
set_option maxHeartbeats 4000000 in
theorem link88 (sv : LI) (fv1 : FuncId) (cv1 : List Dat) (F1 : Int → (Bool → Prop) → Prop) (hF1 : FnIs Try.prog fv1 cv1 (fun (x : Int) => [toV1 tI x]) (fun (y : Bool) => [toV1 .bool y]) F1) (K : Int → Prop) (h : VC88 sv F1 K) : ACalls Try.prog 88 [toV1 (.sl tI) sv, .c (.fn fv1 cv1)] (fun res => ∃ y, res = (fun y => [toV1 tI y]) y ∧ K y) := by
 refine acalls_of_aw [tI] [.t 4] Try.func88 rfl rfl rfl ?_
 unfold VC88 at h
 refine srn 1 ⟨19, [s1 0 (.pS sv), s1 1 (.fn fv1 cv1)], []⟩ (by kernel_rfl) rfl ?_
 refine aw_seq ?_
 refine srn 3 ⟨19, [s1 0 (.pS sv), s1 1 (.fn fv1 cv1), e88_0 sv, sI 8 (0 : Int)], []⟩ (by kernel_rfl) rfl ?_
 refine withJoin (σ := Unit) (fun s => (⟨19, [], []⟩ : St)) (fun s => VC88_k1 K) (fun s h => ?_) (fun rest1 => ?_)
 ·have h : VC88_k1 K := h
  unfold VC88_k1 at h
  refine thenQ_n ?_
  refine srn 1 ⟨19, [sI 4 (-1 : Int)], []⟩ (by kernel_rfl) rfl ?_
  refine aw_ret ?_
  exact retQ_r (ob := Ts 1 True) _ (by kernel_rfl) (tsI 1 trivial) h
 ·refine aw_block ?_
  refine aw_loop (σ := Int) (fun s => (⟨19, [s1 0 (.pS sv), s1 1 (.fn fv1 cv1), e88_0 sv, sI 8 s], []⟩ : St)) (fun s X => VC88_l1 sv F1 K s X) (s0 := (0 : Int)) (fun v8 X1 h => ?_) h
  have h : VC88_l1 sv F1 K v8 X1 := h
  unfold VC88_l1 at h
  refine srn 1 ⟨19, [s1 0 (.pS sv), s1 1 (.fn fv1 cv1), e88_0 sv, sI 8 v8, sB 9 (decide (v8 < (sv.length : Int)))], []⟩ (by kernel_rfl) rfl ?_
  refine aw_seq ?_
  refine aw_cond (b := (decide (v8 < (sv.length : Int)))) (by kernel_rfl) (fun hb => ?_) (fun hb => ?_)
  ·have h := h.1 hb
   refine aw_skip ?_
   refine thenQ_n ?_
   refine aw_seq ?_
   refine aw_block ?_
   refine sr ?_
   refine rqT 2 ⟨19, [s1 0 (.pS sv), s1 1 (.fn fv1 cv1), sI 5 v8, e88_0 sv, sI 8 v8], []⟩ (by kernel_rfl) ?_
   refine nsr ?_
   obtain ⟨o1, h⟩ := h
   refine rq 5 (ob := (Ts 3 (inIdx v8 sv.length ∧ Ts 1 True))) (st' := (⟨19, [s1 0 (.pS sv), s1 1 (.fn fv1 cv1), sI 5 v8, e88_0 sv, sI 8 v8, s1 11 (.fn fv1 cv1), sI 15 (sv.getD (v8).toNat (0 : Int))], []⟩ : St)) (by kernel_rfl) (tsI 3 ⟨o1, tsI 1 trivial⟩) ?_
   refine lcq (d := 16) [.d tI] (fun ret16v => (⟨19, [s1 0 (.pS sv), s1 1 (.fn fv1 cv1), sI 5 v8, e88_0 sv, sI 8 v8, sB 16 ret16v], []⟩ : St)) (by kernel_rfl) hF1.1 (fun _ => by kernel_rfl) (hF1.2 (sv.getD (v8).toNat (0 : Int)) _ h) (fun ret16v h => ?_)
   refine nn ?_
   refine aw_cond (b := ret16v) (by kernel_rfl) (fun hb => ?_) (fun hb => ?_)
   ·have h := h.1 hb
    refine srn 2 ⟨19, [sI 4 v8], []⟩ (by kernel_rfl) rfl ?_
    refine aw_ret ?_
    refine blockQ_r ?_
    refine thenQ_r ?_
    refine thenQ_r ?_
    refine blockQ_r ?_
    refine thenQ_r ?_
    exact retQ_r (ob := Ts 1 True) _ (by kernel_rfl) (tsI 1 trivial) h
   ·have h := h.2 hb
    refine aw_skip ?_
    refine blockQ_n ?_
    refine thenQ_n ?_
    refine aw_region ?_
    obtain ⟨o1, h⟩ := h
    refine rq 2 (ob := (InR (v8 + (1 : Int)) ∧ Ts 1 True)) (st' := (⟨19, [s1 0 (.pS sv), s1 1 (.fn fv1 cv1), e88_0 sv, sI 8 (v8 + (1 : Int))], []⟩ : St)) (by kernel_rfl) (⟨o1, tsI 1 trivial⟩) ?_
    refine awl_nil ?_
    exact thenQ_n ⟨(v8 + (1 : Int)), rfl, h⟩
  ·have h := h.2 hb
   refine cpr (st' := (⟨19, [], []⟩ : St)) (by kernel_rfl) ?_
   refine aw_exit ?_
   refine thenQ_x ?_
   refine thenQ_x ?_
   refine blockQ_hit ?_
   exact rest1 () h
-- slices.ContainsFunc[[]int,int]
def VC59 (sv : LI) (F1 : Int → (Bool → Prop) → Prop) (K : Bool → Prop) : Prop :=
  VC88 sv F1 (fun (ret7v : Int) => K (decide ((0 : Int) ≤ ret7v)))
set_option maxHeartbeats 4000000 in
theorem link59 (sv : LI) (fv1 : FuncId) (cv1 : List Dat) (F1 : Int → (Bool → Prop) → Prop) (hF1 : FnIs Try.prog fv1 cv1 (fun (x : Int) => [toV1 tI x]) (fun (y : Bool) => [toV1 .bool y]) F1) (K : Bool → Prop) (h : VC59 sv F1 K) : ACalls Try.prog 59 [toV1 (.sl tI) sv, .c (.fn fv1 cv1)] (fun res => ∃ y, res = (fun y => [toV1 .bool y]) y ∧ K y) := by
 refine acalls_of_aw [.bool] [.t 4] Try.func59 rfl rfl rfl ?_
 unfold VC59 at h
 refine sr ?_
 refine rqT 1 ⟨9, [s1 0 (.pS sv), s1 1 (.fn fv1 cv1)], []⟩ (by kernel_rfl) ?_
 refine nsr ?_
 refine rqT 2 ⟨9, [s1 5 (.pS sv), s1 6 (.fn fv1 cv1)], []⟩ (by kernel_rfl) ?_
 refine lcq (d := 7) [.d (.sl tI), .fn] (fun ret7v => (⟨9, [sI 7 ret7v], []⟩ : St)) (by kernel_rfl) Try.call88 (fun _ => by kernel_rfl) (link88 sv fv1 cv1 F1 hF1 _ h) (fun ret7v h => ?_)
 refine rqT 2 ⟨9, [sB 4 (decide ((0 : Int) ≤ ret7v))], []⟩ (by kernel_rfl) ?_
 refine nn ?_
 refine aw_ret ?_
 exact retQ_r (ob := Ts 1 True) _ (by kernel_rfl) (tsI 1 trivial) h
abbrev e81_0 (g : TG) : Nat × Path × Con := hB 2 [.pI g.1, .pI g.2.1, .pI g.2.2.1, .p (.sl tR) g.2.2.2]
-- coppicer/grammar.IsSigns
def VC81 (g : TG) (l : LI) (K : Bool → Prop) : Prop :=
  VC59 l (fun (x : Int) (K : Bool → Prop) => VC107 x g K) (fun (ret7v : Bool) => K (!ret7v))
set_option maxHeartbeats 4000000 in
theorem link81 (g : TG) (l : LI) (K : Bool → Prop) (h : VC81 g l K) : ACalls Try.prog 81 [toV1 tG g, toV1 (.sl tI) l] (fun res => ∃ y, res = (fun y => [toV1 .bool y]) y ∧ K y) := by
 refine acalls_of_aw [.bool] [.t 4] Try.func81 rfl rfl rfl ?_
 unfold VC81 at h
 refine sr ?_
 refine rqT 2 ⟨9, [s1 1 (.pS l), sp 2 2], [e81_0 g]⟩ (by kernel_rfl) ?_
 refine nsr ?_
 refine rqT 1 ⟨9, [sp 2 2, s1 5 (.pS l)], [e81_0 g]⟩ (by kernel_rfl) ?_
 refine awl_conv [.freezeB 2 tG] (st' := (⟨9, [s1 2 (.ad tG g), s1 5 (.pS l)], []⟩ : St)) (by kernel_rfl) ?_
 refine rqT 1 ⟨9, [s1 5 (.pS l), s1 6 (.fn 107 [(⟨tG, g⟩ : Dat)])], []⟩ (by kernel_rfl) ?_
 refine lcq (d := 7) [.d (.sl tI), .fn] (fun ret7v => (⟨9, [sB 7 ret7v], []⟩ : St)) (by kernel_rfl) Try.call59 (fun _ => by kernel_rfl) (link59 l 107 [(⟨tG, g⟩ : Dat)] (fun (x : Int) (K : Bool → Prop) => VC107 x g K) ⟨Try.call107, fun x K h => link107 x g K h⟩ _ h) (fun ret7v h => ?_)
 refine rqT 2 ⟨9, [sB 4 (!ret7v)], []⟩ (by kernel_rfl) ?_
 refine nn ?_
 refine aw_ret ?_
 exact retQ_r (ob := Ts 1 True) _ (by kernel_rfl) (tsI 1 trivial) h
abbrev e51_0 (g : TG) : Nat × Path × Con := hB 1 [.pI g.1, .pI g.2.1, .pI g.2.2.1, .p (.sl tR) g.2.2.2]
abbrev e51_1 (g : TG) : Nat × Path × AV := s1 36 (.p (.sl tR) g.2.2.2)
abbrev e51_2 (g : TG) (v38 : Int) : Nat × Path × Con := hB 5 [.pI ((g.2.2.2.getD (v38).toNat ((0 : Int), ([] : LI))).1), .pS ((g.2.2.2.getD (v38).toNat ((0 : Int), ([] : LI))).2)]
abbrev e51_3 : Nat × Path × AV := s1 3 (.fn 79 [])
abbrev e51_4 (g : TG) : Nat × Path × AV := sI 37 (g.2.2.2.length : Int)
-- coppicer/grammar.Check
def VC51_k1 (K : Int → Prop) : Prop :=
  K (0 : Int)
def VC51_l1 (g : TG) (K : Int → Prop) (v38 : Int) (X1 : Int → Prop) : Prop :=
  (((decide (v38 < (g.2.2.2.length : Int))) = true → (inIdx v38 g.2.2.2.length ∧ (InR (g.2.1 - (1 : Int)) ∧ VC79 ((g.2.2.2.getD (v38).toNat ((0 : Int), ([] : LI))).1) (0 : Int) (g.2.1 - (1 : Int)) (fun (ret48v : Bool) => gcall (α := Bool) (!(!ret48v)) (VC81 g ((g.2.2.2.getD (v38).toNat ((0 : Int), ([] : LI))).2)) false (fun (ret54v : Bool) => ((((!ret48v) || (!ret54v)) = true → K (2 : Int)) ∧ (((!ret48v) || (!ret54v)) = false → (InR (v38 + (1 : Int)) ∧ X1 (v38 + (1 : Int)))))))))) ∧ ((decide (v38 < (g.2.2.2.length : Int))) = false → VC51_k1 K))
def VC51 (g : TG) (K : Int → Prop) : Prop :=
  VC79 g.1 (1 : Int) (3 : Int) (fun (ret9v : Bool) => gcall (α := Bool) (!(!ret9v)) (VC79 g.2.1 (1 : Int) (5 : Int)) false (fun (ret15v : Bool) => (((((!ret9v) || (!ret15v)) || (decide ((10 : Int) < (g.2.2.2.length : Int)))) = true → K (1 : Int)) ∧ ((((!ret9v) || (!ret15v)) || (decide ((10 : Int) < (g.2.2.2.length : Int)))) = false → VC77 g.2.2.2 (fun (x : (Int × LI)) (K : Bool → Prop) => VC80 x K) (fun (ret26v : Bool) => ((ret26v = true → K (1 : Int)) ∧ (ret26v = false → (InR (g.2.1 - (1 : Int)) ∧ VC79 g.2.2.1 (0 : Int) (g.2.1 - (1 : Int)) (fun (ret33v : Bool) => (((!ret33v) = true → K (2 : Int)) ∧ ((!ret33v) = false → Loop (σ := Int) (fun s X => VC51_l1 g K s X) (0 : Int))))))))))))
set_option maxHeartbeats 4000000 in
theorem link51 (g : TG) (K : Int → Prop) (h : VC51 g K) : ACalls Try.prog 51 [toV1 tG g] (fun res => ∃ y, res = (fun y => [toV1 tI y]) y ∧ K y) := by
 refine acalls_of_aw [tI] [.t 2] Try.func51 rfl rfl rfl ?_
 unfold VC51 at h
 refine sr ?_
 refine rqT 2 ⟨58, [sp 1 1], [e51_0 g]⟩ (by kernel_rfl) ?_
 refine nsr ?_
 refine rqT 1 ⟨58, [sp 1 1, e51_3], [e51_0 g]⟩ (by kernel_rfl) ?_
 refine nn ?_
 refine aw_seq ?_
 refine sr ?_
 refine rqT 3 ⟨58, [sp 1 1, e51_3, s1 6 (.fn 79 []), sI 8 g.1], [e51_0 g]⟩ (by kernel_rfl) ?_
 refine lcq (d := 9) [.d tI, .d tI, .d tI] (fun ret9v => (⟨58, [sp 1 1, e51_3, sB 9 ret9v], [e51_0 g]⟩ : St)) (by kernel_rfl) Try.call79 (fun _ => by kernel_rfl) (link79 g.1 (1 : Int) (3 : Int) _ h) (fun ret9v h => ?_)
 refine rq 5 (ob := (Ts 2 (Ti 3 ((!ret9v) = false → True) True))) (st' := (⟨58, [sp 1 1, e51_3, sB 11 (!ret9v), (12, [(11, false)], .v (.c (.fn 79 []))), (14, [(11, false)], .v (.c (.pI g.2.1)))], [e51_0 g]⟩ : St)) (by kernel_rfl) (tsI 2 (tiI 3 (fun _ => trivial) trivial)) ?_
 refine awl_callk (p := [(11, false)]) (l := [toV1 tI g.2.1, toV1 tI (1 : Int), toV1 tI (5 : Int)]) (cl := []) false [.d tI, .d tI, .d tI] [1, 3, 11, 15] [1] (fun (ret15v : Bool) => (((((!ret9v) || (!ret15v)) || (decide ((10 : Int) < (g.2.2.2.length : Int)))) = true → K (1 : Int)) ∧ ((((!ret9v) || (!ret15v)) || (decide ((10 : Int) < (g.2.2.2.length : Int)))) = false → VC77 g.2.2.2 (fun (x : (Int × LI)) (K : Bool → Prop) => VC80 x K) (fun (ret26v : Bool) => ((ret26v = true → K (1 : Int)) ∧ (ret26v = false → (InR (g.2.1 - (1 : Int)) ∧ VC79 g.2.2.1 (0 : Int) (g.2.1 - (1 : Int)) (fun (ret33v : Bool) => (((!ret33v) = true → K (2 : Int)) ∧ ((!ret33v) = false → Loop (σ := Int) (fun s X => VC51_l1 g K s X) (0 : Int))))))))))) (fun ret15v => [toV1 .bool ret15v]) (fun ret15v => (⟨58, [sp 1 1, e51_3, sB 11 (!ret9v), (15, [(11, false)], .v (.c (.pB ret15v)))], [e51_0 g]⟩ : St)) (by kernel_rfl) rfl (by kernel_rfl) rfl (by kernel_rfl) Try.call79 (by kernel_rfl) (fun ret15v => by kernel_rfl) (fun e => by cases e) (fun hg => link79 g.2.1 (1 : Int) (5 : Int) _ (by have := gcall_T h (show (!(!ret9v)) = true from hg); exact this)) (fun hg => ⟨false, by have := gcall_F h (show (!(!ret9v)) = false from hg); exact this⟩) (fun ret15v h => ?_)
 refine rq 8 (ob := (((!ret9v) = false → True) ∧ Ts 2 (Ti 4 (((!ret9v) || (!ret15v)) = false → True) (Ts 1 True)))) (st' := (⟨58, [sp 1 1, e51_3, sB 23 (((!ret9v) || (!ret15v)) || (decide ((10 : Int) < (g.2.2.2.length : Int))))], [e51_0 g]⟩ : St)) (by kernel_rfl) (⟨(fun _ => trivial), tsI 2 (tiI 4 (fun _ => trivial) (tsI 1 trivial))⟩) ?_
 refine nn ?_
 refine aw_cond (b := (((!ret9v) || (!ret15v)) || (decide ((10 : Int) < (g.2.2.2.length : Int))))) (by kernel_rfl) (fun hb => ?_) (fun hb => ?_)
 ·have h := h.1 hb
  refine srn 1 ⟨58, [sI 2 (1 : Int)], []⟩ (by kernel_rfl) rfl ?_
  refine aw_ret ?_
  refine thenQ_r ?_
  exact retQ_r (ob := Ts 1 True) _ (by kernel_rfl) (tsI 1 trivial) h
 ·have h := h.2 hb
  refine aw_skip ?_
  refine thenQ_n ?_
  refine aw_seq ?_
  refine sr ?_
  refine rqT 2 ⟨58, [sp 1 1, e51_3, s1 25 (.p (.sl tR) g.2.2.2)], [e51_0 g]⟩ (by kernel_rfl) ?_
  refine lcq (d := 26) [.d (.sl tR), .fn] (fun ret26v => (⟨58, [sp 1 1, e51_3, sB 26 ret26v], [e51_0 g]⟩ : St)) (by kernel_rfl) Try.call77 (fun _ => by kernel_rfl) (link77 g.2.2.2 80 [] (fun (x : (Int × LI)) (K : Bool → Prop) => VC80 x K) ⟨Try.call80, fun x K h => link80 x K h⟩ _ h) (fun ret26v h => ?_)
  refine nn ?_
  refine aw_cond (b := ret26v) (by kernel_rfl) (fun hb => ?_) (fun hb => ?_)
  ·have h := h.1 hb
   refine srn 1 ⟨58, [sI 2 (1 : Int)], []⟩ (by kernel_rfl) rfl ?_
   refine aw_ret ?_
   refine thenQ_r ?_
   exact retQ_r (ob := Ts 1 True) _ (by kernel_rfl) (tsI 1 trivial) h
  ·have h := h.2 hb
   refine aw_skip ?_
   refine thenQ_n ?_
   refine aw_seq ?_
   refine sr ?_
   obtain ⟨o1, h⟩ := h
   refine rq 6 (ob := (Ts 5 (InR (g.2.1 - (1 : Int)) ∧ True))) (st' := (⟨58, [sp 1 1, e51_3, s1 27 (.fn 79 []), sI 29 g.2.2.1, sI 32 (g.2.1 - (1 : Int))], [e51_0 g]⟩ : St)) (by kernel_rfl) (tsI 5 ⟨o1, trivial⟩) ?_
   refine lcq (d := 33) [.d tI, .d tI, .d tI] (fun ret33v => (⟨58, [sp 1 1, e51_3, sB 33 ret33v], [e51_0 g]⟩ : St)) (by kernel_rfl) Try.call79 (fun _ => by kernel_rfl) (link79 g.2.2.1 (0 : Int) (g.2.1 - (1 : Int)) _ h) (fun ret33v h => ?_)
   refine rqT 1 ⟨58, [sp 1 1, e51_3, sB 34 (!ret33v)], [e51_0 g]⟩ (by kernel_rfl) ?_
   refine nn ?_
   refine aw_cond (b := (!ret33v)) (by kernel_rfl) (fun hb => ?_) (fun hb => ?_)
   ·have h := h.1 hb
    refine srn 1 ⟨58, [sI 2 (2 : Int)], []⟩ (by kernel_rfl) rfl ?_
    refine aw_ret ?_
    refine thenQ_r ?_
    exact retQ_r (ob := Ts 1 True) _ (by kernel_rfl) (tsI 1 trivial) h
   ·have h := h.2 hb
    refine aw_skip ?_
    refine thenQ_n ?_
    refine aw_seq ?_
    refine srn 4 ⟨58, [sp 1 1, e51_3, e51_1 g, e51_4 g, sI 38 (0 : Int)], [e51_0 g]⟩ (by kernel_rfl) rfl ?_
    refine withJoin (σ := Unit) (fun s => (⟨58, [], []⟩ : St)) (fun s => VC51_k1 K) (fun s h => ?_) (fun rest1 => ?_)
    ·have h : VC51_k1 K := h
     unfold VC51_k1 at h
     refine thenQ_n ?_
     refine srn 1 ⟨58, [sI 2 (0 : Int)], []⟩ (by kernel_rfl) rfl ?_
     refine aw_ret ?_
     exact retQ_r (ob := Ts 1 True) _ (by kernel_rfl) (tsI 1 trivial) h
    ·refine aw_block ?_
     refine aw_loop (σ := Int) (fun s => (⟨58, [sp 1 1, e51_3, e51_1 g, e51_4 g, sI 38 s], [e51_0 g]⟩ : St)) (fun s X => VC51_l1 g K s X) (s0 := (0 : Int)) (fun v38 X1 h => ?_) h
     have h : VC51_l1 g K v38 X1 := h
     unfold VC51_l1 at h
     refine srn 1 ⟨58, [sp 1 1, e51_3, e51_1 g, e51_4 g, sI 38 v38, sB 39 (decide (v38 < (g.2.2.2.length : Int)))], [e51_0 g]⟩ (by kernel_rfl) rfl ?_
     refine aw_seq ?_
     refine aw_cond (b := (decide (v38 < (g.2.2.2.length : Int)))) (by kernel_rfl) (fun hb => ?_) (fun hb => ?_)
     ·have h := h.1 hb
      refine aw_skip ?_
      refine thenQ_n ?_
      refine aw_seq ?_
      refine aw_block ?_
      refine sr ?_
      obtain ⟨o1, h⟩ := h
      refine rq 4 (ob := (inIdx v38 g.2.2.2.length ∧ Ts 3 True)) (st' := (⟨58, [sp 1 1, e51_3, sp 5 5, e51_1 g, e51_4 g, sI 38 v38], [e51_0 g, e51_2 g v38]⟩ : St)) (by kernel_rfl) (⟨o1, tsI 3 trivial⟩) ?_
      refine nsr ?_
      obtain ⟨o1, h⟩ := h
      refine rq 6 (ob := (Ts 5 (InR (g.2.1 - (1 : Int)) ∧ True))) (st' := (⟨58, [sp 1 1, e51_3, sp 5 5, e51_1 g, e51_4 g, sI 38 v38, s1 42 (.fn 79 []), sI 44 ((g.2.2.2.getD (v38).toNat ((0 : Int), ([] : LI))).1), sI 47 (g.2.1 - (1 : Int))], [e51_0 g, e51_2 g v38]⟩ : St)) (by kernel_rfl) (tsI 5 ⟨o1, trivial⟩) ?_
      refine lcq (d := 48) [.d tI, .d tI, .d tI] (fun ret48v => (⟨58, [sp 1 1, e51_3, sp 5 5, e51_1 g, e51_4 g, sI 38 v38, sB 48 ret48v], [e51_0 g, e51_2 g v38]⟩ : St)) (by kernel_rfl) Try.call79 (fun _ => by kernel_rfl) (link79 ((g.2.2.2.getD (v38).toNat ((0 : Int), ([] : LI))).1) (0 : Int) (g.2.1 - (1 : Int)) _ h) (fun ret48v h => ?_)
      refine rq 5 (ob := (Ts 2 (Ti 3 ((!ret48v) = false → True) True))) (st' := (⟨58, [sp 1 1, e51_3, e51_1 g, e51_4 g, sI 38 v38, sB 50 (!ret48v), (51, [(50, false)], .v (.agg [.pI g.1, .pI g.2.1, .pI g.2.2.1, .p (.sl tR) g.2.2.2])), (53, [(50, false)], .v (.c (.pS ((g.2.2.2.getD (v38).toNat ((0 : Int), ([] : LI))).2))))], [e51_0 g]⟩ : St)) (by kernel_rfl) (tsI 2 (tiI 3 (fun _ => trivial) trivial)) ?_
      refine awl_callk (p := [(50, false)]) (l := [toV1 tG g, toV1 (.sl tI) ((g.2.2.2.getD (v38).toNat ((0 : Int), ([] : LI))).2)]) (cl := []) false [.d tG, .d (.sl tI)] [1, 3, 36, 37, 38, 50, 54] [1] (fun (ret54v : Bool) => ((((!ret48v) || (!ret54v)) = true → K (2 : Int)) ∧ (((!ret48v) || (!ret54v)) = false → (InR (v38 + (1 : Int)) ∧ X1 (v38 + (1 : Int)))))) (fun ret54v => [toV1 .bool ret54v]) (fun ret54v => (⟨58, [sp 1 1, e51_3, e51_1 g, e51_4 g, sI 38 v38, sB 50 (!ret48v), (54, [(50, false)], .v (.c (.pB ret54v)))], [e51_0 g]⟩ : St)) (by kernel_rfl) rfl (by kernel_rfl) rfl (by kernel_rfl) Try.call81 (by kernel_rfl) (fun ret54v => by kernel_rfl) (fun e => by cases e) (fun hg => link81 g ((g.2.2.2.getD (v38).toNat ((0 : Int), ([] : LI))).2) _ (by have := gcall_T h (show (!(!ret48v)) = true from hg); exact this)) (fun hg => ⟨false, by have := gcall_F h (show (!(!ret48v)) = false from hg); exact this⟩) (fun ret54v h => ?_)
      refine rq 2 (ob := (((!ret48v) = false → True) ∧ Ts 1 True)) (st' := (⟨58, [sp 1 1, e51_3, e51_1 g, e51_4 g, sI 38 v38, sB 56 ((!ret48v) || (!ret54v))], [e51_0 g]⟩ : St)) (by kernel_rfl) (⟨(fun _ => trivial), tsI 1 trivial⟩) ?_
      refine nn ?_
      refine aw_cond (b := ((!ret48v) || (!ret54v))) (by kernel_rfl) (fun hb => ?_) (fun hb => ?_)
      ·have h := h.1 hb
       refine srn 1 ⟨58, [sI 2 (2 : Int)], []⟩ (by kernel_rfl) rfl ?_
       refine aw_ret ?_
       refine blockQ_r ?_
       refine thenQ_r ?_
       refine thenQ_r ?_
       refine blockQ_r ?_
       refine thenQ_r ?_
       exact retQ_r (ob := Ts 1 True) _ (by kernel_rfl) (tsI 1 trivial) h
      ·have h := h.2 hb
       refine aw_skip ?_
       refine blockQ_n ?_
       refine thenQ_n ?_
       refine aw_region ?_
       obtain ⟨o1, h⟩ := h
       refine rq 2 (ob := (InR (v38 + (1 : Int)) ∧ Ts 1 True)) (st' := (⟨58, [sp 1 1, e51_3, e51_1 g, e51_4 g, sI 38 (v38 + (1 : Int))], [e51_0 g]⟩ : St)) (by kernel_rfl) (⟨o1, tsI 1 trivial⟩) ?_
       refine awl_nil ?_
       exact thenQ_n ⟨(v38 + (1 : Int)), rfl, h⟩
     ·have h := h.2 hb
      refine cpr (st' := (⟨58, [], []⟩ : St)) (by kernel_rfl) ?_
      refine aw_exit ?_
      refine thenQ_x ?_
      refine thenQ_x ?_
      refine blockQ_hit ?_
      exact rest1 () h
-- coppicer/machine.within
def VC106 (n : Int) (low : Int) (high : Int) (K : Bool → Prop) : Prop :=
  K ((decide (low ≤ n)) && (decide (n ≤ high)))
set_option maxHeartbeats 4000000 in
theorem link106 (n : Int) (low : Int) (high : Int) (K : Bool → Prop) (h : VC106 n low high K) : ACalls Try.prog 106 [toV1 tI n, toV1 tI low, toV1 tI high] (fun res => ∃ y, res = (fun y => [toV1 .bool y]) y ∧ K y) := by
 refine acalls_of_aw [.bool] [.t 6] Try.func106 rfl rfl rfl ?_
 unfold VC106 at h
 refine sr ?_
 refine rqT 1 ⟨15, [sI 0 n, sI 1 low, sI 2 high], []⟩ (by kernel_rfl) ?_
 refine nsr ?_
 refine rq 9 (ob := (Ts 4 (Ti 3 ((decide (low ≤ n)) = true → True) (Ts 2 True)))) (st' := (⟨15, [sB 6 ((decide (low ≤ n)) && (decide (n ≤ high)))], []⟩ : St)) (by kernel_rfl) (tsI 4 (tiI 3 (fun _ => trivial) (tsI 2 trivial))) ?_
 refine nn ?_
 refine aw_ret ?_
 exact retQ_r (ob := Ts 1 True) _ (by kernel_rfl) (tsI 1 trivial) h
-- coppicer/machine.Word$1
def VC105 (sv : Int) (a1 : Int) (K : Bool → Prop) : Prop :=
  (InR (a1 - (1 : Int)) ∧ VC106 sv (0 : Int) (a1 - (1 : Int)) (fun (ret7v : Bool) => K (!ret7v)))
set_option maxHeartbeats 4000000 in
theorem link105 (sv : Int) (a1 : Int) (K : Bool → Prop) (h : VC105 sv a1 K) : ACalls Try.prog 105 [toV1 tI sv, .c (.ad tI a1)] (fun res => ∃ y, res = (fun y => [toV1 .bool y]) y ∧ K y) := by
 refine acalls_of_aw [.bool] [.t 3] Try.func105 rfl rfl rfl ?_
 unfold VC105 at h
 refine sr ?_
 refine rqT 1 ⟨9, [sI 0 sv, s1 1 (.ad tI a1)], []⟩ (by kernel_rfl) ?_
 refine nsr ?_
 obtain ⟨o1, h⟩ := h
 refine rq 3 (ob := (Ts 2 (InR (a1 - (1 : Int)) ∧ True))) (st' := (⟨9, [sI 4 sv, sI 6 (a1 - (1 : Int))], []⟩ : St)) (by kernel_rfl) (tsI 2 ⟨o1, trivial⟩) ?_
 refine lcq (d := 7) [.d tI, .d tI, .d tI] (fun ret7v => (⟨9, [sB 7 ret7v], []⟩ : St)) (by kernel_rfl) Try.call106 (fun _ => by kernel_rfl) (link106 sv (0 : Int) (a1 - (1 : Int)) _ h) (fun ret7v h => ?_)
 refine rqT 2 ⟨9, [sB 3 (!ret7v)], []⟩ (by kernel_rfl) ?_
 refine nn ?_
 refine aw_ret ?_
 exact retQ_r (ob := Ts 1 True) _ (by kernel_rfl) (tsI 1 trivial) h
-- coppicer/machine.Word
def VC75 (k : Int) (w : LI) (K : Int → Prop) : Prop :=
  (((decide ((12 : Int) < (w.length : Int))) = true → K (1 : Int)) ∧ ((decide ((12 : Int) < (w.length : Int))) = false → VC59 w (fun (x : Int) (K : Bool → Prop) => VC105 x k K) (fun (ret10v : Bool) => ((ret10v = true → K (2 : Int)) ∧ (ret10v = false → K (0 : Int))))))
set_option maxHeartbeats 4000000 in
theorem link75 (k : Int) (w : LI) (K : Int → Prop) (h : VC75 k w K) : ACalls Try.prog 75 [toV1 tI k, toV1 (.sl tI) w] (fun res => ∃ y, res = (fun y => [toV1 tI y]) y ∧ K y) := by
 refine acalls_of_aw [tI] [.t 4] Try.func75 rfl rfl rfl ?_
 unfold VC75 at h
 refine srn 2 ⟨11, [s1 1 (.pS w), sp 2 2], [hB 2 [.pI k]]⟩ (by kernel_rfl) rfl ?_
 refine aw_seq ?_
 refine srn 3 ⟨11, [s1 1 (.pS w), sp 2 2, sB 7 (decide ((12 : Int) < (w.length : Int)))], [hB 2 [.pI k]]⟩ (by kernel_rfl) rfl ?_
 refine aw_cond (b := (decide ((12 : Int) < (w.length : Int)))) (by kernel_rfl) (fun hb => ?_) (fun hb => ?_)
 ·have h := h.1 hb
  refine srn 1 ⟨11, [sI 4 (1 : Int)], []⟩ (by kernel_rfl) rfl ?_
  refine aw_ret ?_
  refine thenQ_r ?_
  exact retQ_r (ob := Ts 1 True) _ (by kernel_rfl) (tsI 1 trivial) h
 ·have h := h.2 hb
  refine aw_skip ?_
  refine thenQ_n ?_
  refine aw_seq ?_
  refine sr ?_
  refine rqT 1 ⟨11, [sp 2 2, s1 8 (.pS w)], [hB 2 [.pI k]]⟩ (by kernel_rfl) ?_
  refine awl_conv [.freezeB 2 tI] (st' := (⟨11, [s1 2 (.ad tI k), s1 8 (.pS w)], []⟩ : St)) (by kernel_rfl) ?_
  refine rqT 1 ⟨11, [s1 8 (.pS w), s1 9 (.fn 105 [(⟨tI, k⟩ : Dat)])], []⟩ (by kernel_rfl) ?_
  refine lcq (d := 10) [.d (.sl tI), .fn] (fun ret10v => (⟨11, [sB 10 ret10v], []⟩ : St)) (by kernel_rfl) Try.call59 (fun _ => by kernel_rfl) (link59 w 105 [(⟨tI, k⟩ : Dat)] (fun (x : Int) (K : Bool → Prop) => VC105 x k K) ⟨Try.call105, fun x K h => link105 x k K h⟩ _ h) (fun ret10v h => ?_)
  refine nn ?_
  refine aw_cond (b := ret10v) (by kernel_rfl) (fun hb => ?_) (fun hb => ?_)
  ·have h := h.1 hb
   refine srn 1 ⟨11, [sI 4 (2 : Int)], []⟩ (by kernel_rfl) rfl ?_
   refine aw_ret ?_
   refine thenQ_r ?_
   exact retQ_r (ob := Ts 1 True) _ (by kernel_rfl) (tsI 1 trivial) h
  ·have h := h.2 hb
   refine aw_skip ?_
   refine thenQ_n ?_
   refine srn 1 ⟨11, [sI 4 (0 : Int)], []⟩ (by kernel_rfl) rfl ?_
   refine aw_ret ?_
   exact retQ_r (ob := Ts 1 True) _ (by kernel_rfl) (tsI 1 trivial) h
abbrev e44_0 (g : TG) : Nat × Path × Con := hB 2 [.pI g.1, .pI g.2.1, .pI g.2.2.1, .p (.sl tR) g.2.2.2]
-- coppicer/table.Check
def VC44 (g : TG) (w : LI) (K : Int → Prop) : Prop :=
  VC51 g (fun (ret7v : Int) => (((!decide (ret7v = (0 : Int))) = true → K ret7v) ∧ ((!decide (ret7v = (0 : Int))) = false → VC75 g.1 w (fun (ret14v : Int) => K ret14v))))
set_option maxHeartbeats 4000000 in
theorem link44 (g : TG) (w : LI) (K : Int → Prop) (h : VC44 g w K) : ACalls Try.prog 44 [toV1 tG g, toV1 (.sl tI) w] (fun res => ∃ y, res = (fun y => [toV1 tI y]) y ∧ K y) := by
 refine acalls_of_aw [tI] [.t 4] Try.func44 rfl rfl rfl ?_
 unfold VC44 at h
 refine srn 2 ⟨15, [s1 1 (.pS w), sp 2 2], [e44_0 g]⟩ (by kernel_rfl) rfl ?_
 refine aw_seq ?_
 refine sr ?_
 refine rqT 1 ⟨15, [s1 1 (.pS w), sp 2 2, sA 6 [.pI g.1, .pI g.2.1, .pI g.2.2.1, .p (.sl tR) g.2.2.2]], [e44_0 g]⟩ (by kernel_rfl) ?_
 refine lcq (d := 7) [.d tG] (fun ret7v => (⟨15, [s1 1 (.pS w), sp 2 2, sI 7 ret7v], [e44_0 g]⟩ : St)) (by kernel_rfl) Try.call51 (fun _ => by kernel_rfl) (link51 g _ h) (fun ret7v h => ?_)
 refine rqT 1 ⟨15, [s1 1 (.pS w), sp 2 2, sI 5 ret7v], [e44_0 g]⟩ (by kernel_rfl) ?_
 refine nsr ?_
 refine rqT 2 ⟨15, [s1 1 (.pS w), sp 2 2, sI 5 ret7v, sB 9 (!decide (ret7v = (0 : Int)))], [e44_0 g]⟩ (by kernel_rfl) ?_
 refine nn ?_
 refine aw_cond (b := (!decide (ret7v = (0 : Int)))) (by kernel_rfl) (fun hb => ?_) (fun hb => ?_)
 ·have h := h.1 hb
  refine srn 2 ⟨15, [sI 4 ret7v], []⟩ (by kernel_rfl) rfl ?_
  refine aw_ret ?_
  refine thenQ_r ?_
  exact retQ_r (ob := Ts 1 True) _ (by kernel_rfl) (tsI 1 trivial) h
 ·have h := h.2 hb
  refine aw_skip ?_
  refine thenQ_n ?_
  refine sr ?_
  refine rqT 3 ⟨15, [sI 12 g.1, s1 13 (.pS w)], []⟩ (by kernel_rfl) ?_
  refine lcq (d := 14) [.d tI, .d (.sl tI)] (fun ret14v => (⟨15, [sI 14 ret14v], []⟩ : St)) (by kernel_rfl) Try.call75 (fun _ => by kernel_rfl) (link75 g.1 w _ h) (fun ret14v h => ?_)
  refine rqT 1 ⟨15, [sI 4 ret14v], []⟩ (by kernel_rfl) ?_
  refine nn ?_
  refine aw_ret ?_
  exact retQ_r (ob := Ts 1 True) _ (by kernel_rfl) (tsI 1 trivial) h
-- coppicer/machine.Has
def VC47 (setv : Int) (n : Int) (K : Bool → Prop) : Prop :=
  ((0 ≤ setv ∧ 0 ≤ n) ∧ K (decide ((bAnd .u32 (bShr .u32 setv n) (1 : Int)) = (1 : Int))))
set_option maxHeartbeats 4000000 in
theorem link47 (setv : Int) (n : Int) (K : Bool → Prop) (h : VC47 setv n K) : ACalls Try.prog 47 [toV1 (.int .u32) setv, toV1 tI n] (fun res => ∃ y, res = (fun y => [toV1 .bool y]) y ∧ K y) := by
 refine acalls_of_aw [.bool] [.t 4] Try.func47 rfl rfl rfl ?_
 unfold VC47 at h
 refine sr ?_
 refine rqT 1 ⟨10, [s1 0 (.pW setv), sI 1 n], []⟩ (by kernel_rfl) ?_
 refine nsr ?_
 obtain ⟨o1, h⟩ := h
 refine rq 6 (ob := (Ts 2 ((0 ≤ setv ∧ 0 ≤ n) ∧ Ts 3 True))) (st' := (⟨10, [sB 4 (decide ((bAnd .u32 (bShr .u32 setv n) (1 : Int)) = (1 : Int)))], []⟩ : St)) (by kernel_rfl) (tsI 2 ⟨o1, tsI 3 trivial⟩) ?_
 refine nn ?_
 refine aw_ret ?_
 exact retQ_r (ob := Ts 1 True) _ (by kernel_rfl) (tsI 1 trivial) h
abbrev e126_0 (a1 : TG) : Nat × Path × AV := s1 1 (.ad tG a1)
-- coppicer/grammar.AllOf$1
def VC126 (sv : Int) (a1 : TG) (a2 : Bool) (a3 : Int) (K : Bool → Prop) : Prop :=
  (((decide (sv < a1.1)) = true → K (!a2)) ∧ ((decide (sv < a1.1)) = false → (InR (sv - a1.1) ∧ VC47 a3 (sv - a1.1) (fun (ret17v : Bool) => K (!ret17v)))))
set_option maxHeartbeats 4000000 in
theorem link126 (sv : Int) (a1 : TG) (a2 : Bool) (a3 : Int) (K : Bool → Prop) (h : VC126 sv a1 a2 a3 K) : ACalls Try.prog 126 [toV1 tI sv, .c (.ad tG a1), .c (.ad .bool a2), .c (.ad (.int .u32) a3)] (fun res => ∃ y, res = (fun y => [toV1 .bool y]) y ∧ K y) := by
 refine acalls_of_aw [.bool] [.t 5] Try.func126 rfl rfl rfl ?_
 unfold VC126 at h
 refine srn 1 ⟨19, [sI 0 sv, e126_0 a1, s1 2 (.ad .bool a2), s1 3 (.ad (.int .u32) a3)], []⟩ (by kernel_rfl) rfl ?_
 refine aw_seq ?_
 refine srn 4 ⟨19, [sI 0 sv, e126_0 a1, s1 2 (.ad .bool a2), s1 3 (.ad (.int .u32) a3), sB 9 (decide (sv < a1.1))], []⟩ (by kernel_rfl) rfl ?_
 refine aw_cond (b := (decide (sv < a1.1))) (by kernel_rfl) (fun hb => ?_) (fun hb => ?_)
 ·have h := h.1 hb
  refine srn 3 ⟨19, [sB 5 (!a2)], []⟩ (by kernel_rfl) rfl ?_
  refine aw_ret ?_
  refine thenQ_r ?_
  exact retQ_r (ob := Ts 1 True) _ (by kernel_rfl) (tsI 1 trivial) h
 ·have h := h.2 hb
  refine aw_skip ?_
  refine thenQ_n ?_
  refine sr ?_
  obtain ⟨o1, h⟩ := h
  refine rq 5 (ob := (Ts 4 (InR (sv - a1.1) ∧ True))) (st' := (⟨19, [s1 12 (.pW a3), sI 16 (sv - a1.1)], []⟩ : St)) (by kernel_rfl) (tsI 4 ⟨o1, trivial⟩) ?_
  refine lcq (d := 17) [.d (.int .u32), .d tI] (fun ret17v => (⟨19, [sB 17 ret17v], []⟩ : St)) (by kernel_rfl) Try.call47 (fun _ => by kernel_rfl) (link47 a3 (sv - a1.1) _ h) (fun ret17v h => ?_)
  refine rqT 2 ⟨19, [sB 5 (!ret17v)], []⟩ (by kernel_rfl) ?_
  refine nn ?_
  refine aw_ret ?_
  exact retQ_r (ob := Ts 1 True) _ (by kernel_rfl) (tsI 1 trivial) h
abbrev e104_0 (g : TG) : Nat × Path × Con := hB 4 [.pI g.1, .pI g.2.1, .pI g.2.2.1, .p (.sl tR) g.2.2.2]
-- coppicer/grammar.AllOf
def VC104 (g : TG) (l : LI) (setv : Int) (symbols : Bool) (K : Bool → Prop) : Prop :=
  VC59 l (fun (x : Int) (K : Bool → Prop) => VC126 x g symbols setv K) (fun (ret11v : Bool) => K (!ret11v))
set_option maxHeartbeats 4000000 in
theorem link104 (g : TG) (l : LI) (setv : Int) (symbols : Bool) (K : Bool → Prop) (h : VC104 g l setv symbols K) : ACalls Try.prog 104 [toV1 tG g, toV1 (.sl tI) l, toV1 (.int .u32) setv, toV1 .bool symbols] (fun res => ∃ y, res = (fun y => [toV1 .bool y]) y ∧ K y) := by
 refine acalls_of_aw [.bool] [.t 8] Try.func104 rfl rfl rfl ?_
 unfold VC104 at h
 refine sr ?_
 refine rqT 4 ⟨13, [s1 1 (.pS l), sp 4 4, sp 6 6, sp 7 7], [e104_0 g, hB 6 [.pW setv], hB 7 [.pB symbols]]⟩ (by kernel_rfl) ?_
 refine nsr ?_
 refine rqT 1 ⟨13, [sp 4 4, sp 6 6, sp 7 7, s1 9 (.pS l)], [e104_0 g, hB 6 [.pW setv], hB 7 [.pB symbols]]⟩ (by kernel_rfl) ?_
 refine awl_conv [.freezeB 4 tG, .freezeB 7 .bool, .freezeB 6 (.int .u32)] (st' := (⟨13, [s1 4 (.ad tG g), s1 6 (.ad (.int .u32) setv), s1 7 (.ad .bool symbols), s1 9 (.pS l)], []⟩ : St)) (by kernel_rfl) ?_
 refine rqT 1 ⟨13, [s1 9 (.pS l), s1 10 (.fn 126 [(⟨tG, g⟩ : Dat), (⟨.bool, symbols⟩ : Dat), (⟨(.int .u32), setv⟩ : Dat)])], []⟩ (by kernel_rfl) ?_
 refine lcq (d := 11) [.d (.sl tI), .fn] (fun ret11v => (⟨13, [sB 11 ret11v], []⟩ : St)) (by kernel_rfl) Try.call59 (fun _ => by kernel_rfl) (link59 l 126 [(⟨tG, g⟩ : Dat), (⟨.bool, symbols⟩ : Dat), (⟨(.int .u32), setv⟩ : Dat)] (fun (x : Int) (K : Bool → Prop) => VC126 x g symbols setv K) ⟨Try.call126, fun x K h => link126 x g symbols setv K h⟩ _ h) (fun ret11v h => ?_)
 refine rqT 2 ⟨13, [sB 8 (!ret11v)], []⟩ (by kernel_rfl) ?_
 refine nn ?_
 refine aw_ret ?_
 exact retQ_r (ob := Ts 1 True) _ (by kernel_rfl) (tsI 1 trivial) h
abbrev e74_0 (g : TG) : Nat × Path × Con := hB 2 [.pI g.1, .pI g.2.1, .pI g.2.2.1, .p (.sl tR) g.2.2.2]
abbrev e74_1 (g : TG) : Nat × Path × AV := s1 11 (.p (.sl tR) g.2.2.2)
abbrev e74_2 (g : TG) (v13 : Int) : Nat × Path × Con := hB 8 [.pI ((g.2.2.2.getD (v13).toNat ((0 : Int), ([] : LI))).1), .pS ((g.2.2.2.getD (v13).toNat ((0 : Int), ([] : LI))).2)]
abbrev e74_3 (g : TG) : Nat × Path × AV := sI 12 (g.2.2.2.length : Int)
abbrev e74_4 (out : Int) : Nat × Path × AV := s1 6 (.pW out)
-- coppicer/grammar.derive
def VC74_k1 (K : Int → Prop) (out : Int) (X1 : Int → Prop) (out2 : Int) : Prop :=
  (((decide (out2 = out)) = true → K out2) ∧ ((decide (out2 = out)) = false → X1 out2))
def VC74_k2 (v13 : Int) (X2 : Int × Int → Prop) (out3 : Int) : Prop :=
  (InR (v13 + (1 : Int)) ∧ X2 (out3, (v13 + (1 : Int))))
def VC74_l2 (g : TG) (symbols : Bool) (K : Int → Prop) (out : Int) (X1 : Int → Prop) (out2 : Int) (v13 : Int) (X2 : Int × Int → Prop) : Prop :=
  (((decide (v13 < (g.2.2.2.length : Int))) = true → (inIdx v13 g.2.2.2.length ∧ VC104 g ((g.2.2.2.getD (v13).toNat ((0 : Int), ([] : LI))).2) out2 symbols (fun (ret22v : Bool) => ((ret22v = true → (0 ≤ (g.2.2.2.getD (v13).toNat ((0 : Int), ([] : LI))).1 ∧ VC74_k2 v13 X2 (bOr .u32 out2 (bShl .u32 (1 : Int) ((g.2.2.2.getD (v13).toNat ((0 : Int), ([] : LI))).1))))) ∧ (ret22v = false → VC74_k2 v13 X2 out2))))) ∧ ((decide (v13 < (g.2.2.2.length : Int))) = false → VC74_k1 K out X1 out2))
def VC74_l1 (g : TG) (symbols : Bool) (K : Int → Prop) (out : Int) (X1 : Int → Prop) : Prop :=
  Loop (σ := Int × Int) (fun s X => VC74_l2 g symbols K out X1 s.1 s.2 X) (out, (0 : Int))
def VC74 (g : TG) (symbols : Bool) (K : Int → Prop) : Prop :=
  Loop (σ := Int) (fun s X => VC74_l1 g symbols K s X) (0 : Int)
set_option maxHeartbeats 4000000 in
theorem link74 (g : TG) (symbols : Bool) (K : Int → Prop) (h : VC74 g symbols K) : ACalls Try.prog 74 [toV1 tG g, toV1 .bool symbols] (fun res => ∃ y, res = (fun y => [toV1 (.int .u32) y]) y ∧ K y) := by
 refine acalls_of_aw [(.int .u32)] [.t 4] Try.func74 rfl rfl rfl ?_
 unfold VC74 at h
 refine sr ?_
 refine rqT 2 ⟨33, [sB 1 symbols, sp 2 2], [e74_0 g]⟩ (by kernel_rfl) ?_
 refine nsr ?_
 refine rqT 1 ⟨33, [sB 1 symbols, sp 2 2, s1 5 (.pW (0 : Int))], [e74_0 g]⟩ (by kernel_rfl) ?_
 refine nn ?_
 refine aw_block ?_
 refine aw_loop (σ := Int) (fun s => (⟨33, [sB 1 symbols, sp 2 2, s1 5 (.pW s)], [e74_0 g]⟩ : St)) (fun s X => VC74_l1 g symbols K s X) (s0 := (0 : Int)) (fun out X1 h => ?_) h
 have h : VC74_l1 g symbols K out X1 := h
 unfold VC74_l1 at h
 refine aw_block ?_
 refine srn 2 ⟨33, [sB 1 symbols, sp 2 2, s1 5 (.pW out), e74_4 out], [e74_0 g]⟩ (by kernel_rfl) rfl ?_
 refine aw_seq ?_
 refine srn 4 ⟨33, [sB 1 symbols, sp 2 2, s1 5 (.pW out), e74_4 out, e74_1 g, e74_3 g, sI 13 (0 : Int)], [e74_0 g]⟩ (by kernel_rfl) rfl ?_
 refine withJoin (σ := Int) (fun s => (⟨33, [sB 1 symbols, sp 2 2, s1 5 (.pW s), e74_4 out], [e74_0 g]⟩ : St)) (fun s => VC74_k1 K out X1 s) (fun out2 h => ?_) (fun rest1 => ?_)
 ·have h : VC74_k1 K out X1 out2 := h
  unfold VC74_k1 at h
  refine thenQ_n ?_
  refine srn 3 ⟨33, [sB 1 symbols, sp 2 2, s1 5 (.pW out2), sB 31 (decide (out2 = out))], [e74_0 g]⟩ (by kernel_rfl) rfl ?_
  refine aw_cond (b := (decide (out2 = out))) (by kernel_rfl) (fun hb => ?_) (fun hb => ?_)
  ·have h := h.1 hb
   refine srn 2 ⟨33, [s1 4 (.pW out2)], []⟩ (by kernel_rfl) rfl ?_
   refine aw_ret ?_
   refine blockQ_r ?_
   refine thenQ_r ?_
   refine blockQ_r ?_
   exact retQ_r (ob := Ts 1 True) _ (by kernel_rfl) (tsI 1 trivial) h
  ·have h := h.2 hb
   refine cpr (st' := (⟨33, [sB 1 symbols, sp 2 2, s1 5 (.pW out2)], [e74_0 g]⟩ : St)) (by kernel_rfl) ?_
   refine aw_skip ?_
   refine blockQ_n ?_
   exact thenQ_n ⟨out2, rfl, h⟩
 ·refine aw_block ?_
  refine aw_loop (σ := Int × Int) (fun s => (⟨33, [sB 1 symbols, sp 2 2, s1 5 (.pW s.1), e74_4 out, e74_1 g, e74_3 g, sI 13 s.2], [e74_0 g]⟩ : St)) (fun s X => VC74_l2 g symbols K out X1 s.1 s.2 X) (s0 := (out, (0 : Int))) (fun s X2 h => ?_) h
  obtain ⟨out2, v13⟩ := s
  have h : VC74_l2 g symbols K out X1 out2 v13 X2 := h
  unfold VC74_l2 at h
  refine srn 1 ⟨33, [sB 1 symbols, sp 2 2, s1 5 (.pW out2), e74_4 out, e74_1 g, e74_3 g, sI 13 v13, sB 14 (decide (v13 < (g.2.2.2.length : Int)))], [e74_0 g]⟩ (by kernel_rfl) rfl ?_
  refine aw_seq ?_
  refine aw_cond (b := (decide (v13 < (g.2.2.2.length : Int)))) (by kernel_rfl) (fun hb => ?_) (fun hb => ?_)
  ·have h := h.1 hb
   refine aw_skip ?_
   refine thenQ_n ?_
   refine aw_seq ?_
   refine aw_block ?_
   refine sr ?_
   obtain ⟨o1, h⟩ := h
   refine rq 4 (ob := (inIdx v13 g.2.2.2.length ∧ Ts 3 True)) (st' := (⟨33, [sB 1 symbols, sp 2 2, s1 5 (.pW out2), e74_4 out, sp 8 8, e74_1 g, e74_3 g, sI 13 v13], [e74_0 g, e74_2 g v13]⟩ : St)) (by kernel_rfl) (⟨o1, tsI 3 trivial⟩) ?_
   refine nsr ?_
   refine rqT 5 ⟨33, [sB 1 symbols, sp 2 2, s1 5 (.pW out2), e74_4 out, sp 8 8, e74_1 g, e74_3 g, sI 13 v13, sA 17 [.pI g.1, .pI g.2.1, .pI g.2.2.1, .p (.sl tR) g.2.2.2], s1 19 (.pS ((g.2.2.2.getD (v13).toNat ((0 : Int), ([] : LI))).2)), s1 20 (.pW out2), sB 21 symbols], [e74_0 g, e74_2 g v13]⟩ (by kernel_rfl) ?_
   refine lcq (d := 22) [.d tG, .d (.sl tI), .d (.int .u32), .d .bool] (fun ret22v => (⟨33, [sB 1 symbols, sp 2 2, s1 5 (.pW out2), e74_4 out, sp 8 8, e74_1 g, e74_3 g, sI 13 v13, sB 22 ret22v], [e74_0 g, e74_2 g v13]⟩ : St)) (by kernel_rfl) Try.call104 (fun _ => by kernel_rfl) (link104 g ((g.2.2.2.getD (v13).toNat ((0 : Int), ([] : LI))).2) out2 symbols _ h) (fun ret22v h => ?_)
   refine nn ?_
   refine withJoin (σ := Int) (fun s => (⟨33, [sB 1 symbols, sp 2 2, s1 5 (.pW s), e74_4 out, e74_1 g, e74_3 g, sI 13 v13], [e74_0 g]⟩ : St)) (fun s => VC74_k2 v13 X2 s) (fun out3 h => ?_) (fun rest2 => ?_)
   ·have h : VC74_k2 v13 X2 out3 := h
    unfold VC74_k2 at h
    refine blockQ_n ?_
    refine thenQ_n ?_
    refine aw_region ?_
    obtain ⟨o1, h⟩ := h
    refine rq 2 (ob := (InR (v13 + (1 : Int)) ∧ Ts 1 True)) (st' := (⟨33, [sB 1 symbols, sp 2 2, s1 5 (.pW out3), e74_4 out, e74_1 g, e74_3 g, sI 13 (v13 + (1 : Int))], [e74_0 g]⟩ : St)) (by kernel_rfl) (⟨o1, tsI 1 trivial⟩) ?_
    refine awl_nil ?_
    exact thenQ_n ⟨(out3, (v13 + (1 : Int))), rfl, h⟩
   ·refine aw_cond (b := ret22v) (by kernel_rfl) (fun hb => ?_) (fun hb => ?_)
    ·have h := h.1 hb
     refine aw_region ?_
     obtain ⟨o1, h⟩ := h
     refine rq 6 (ob := (Ts 3 (0 ≤ (g.2.2.2.getD (v13).toNat ((0 : Int), ([] : LI))).1 ∧ Ts 2 True))) (st' := (⟨33, [sB 1 symbols, sp 2 2, s1 5 (.pW (bOr .u32 out2 (bShl .u32 (1 : Int) ((g.2.2.2.getD (v13).toNat ((0 : Int), ([] : LI))).1)))), e74_4 out, e74_1 g, e74_3 g, sI 13 v13], [e74_0 g]⟩ : St)) (by kernel_rfl) (tsI 3 ⟨o1, tsI 2 trivial⟩) ?_
     refine awl_nil ?_
     exact rest2 (bOr .u32 out2 (bShl .u32 (1 : Int) ((g.2.2.2.getD (v13).toNat ((0 : Int), ([] : LI))).1))) h
    ·have h := h.2 hb
     refine cpr (st' := (⟨33, [sB 1 symbols, sp 2 2, s1 5 (.pW out2), e74_4 out, e74_1 g, e74_3 g, sI 13 v13], [e74_0 g]⟩ : St)) (by kernel_rfl) ?_
     refine aw_skip ?_
     exact rest2 out2 h
  ·have h := h.2 hb
   refine cpr (st' := (⟨33, [sB 1 symbols, sp 2 2, s1 5 (.pW out2), e74_4 out], [e74_0 g]⟩ : St)) (by kernel_rfl) ?_
   refine aw_exit ?_
   refine thenQ_x ?_
   refine thenQ_x ?_
   refine blockQ_hit ?_
   exact rest1 out2 h
-- coppicer/grammar.Nullable
def VC41 (g : TG) (K : Int → Prop) : Prop :=
  VC74 g false (fun (ret4v : Int) => K ret4v)
set_option maxHeartbeats 4000000 in
theorem link41 (g : TG) (K : Int → Prop) (h : VC41 g K) : ACalls Try.prog 41 [toV1 tG g] (fun res => ∃ y, res = (fun y => [toV1 (.int .u32) y]) y ∧ K y) := by
 refine acalls_of_aw [(.int .u32)] [.t 2] Try.func41 rfl rfl rfl ?_
 unfold VC41 at h
 refine sr ?_
 refine rqT 2 ⟨5, [sp 1 1], [hB 1 [.pI g.1, .pI g.2.1, .pI g.2.2.1, .p (.sl tR) g.2.2.2]]⟩ (by kernel_rfl) ?_
 refine nsr ?_
 refine rqT 1 ⟨5, [sA 3 [.pI g.1, .pI g.2.1, .pI g.2.2.1, .p (.sl tR) g.2.2.2]], []⟩ (by kernel_rfl) ?_
 refine lcq (d := 4) [.d tG, .d .bool] (fun ret4v => (⟨5, [s1 4 (.pW ret4v)], []⟩ : St)) (by kernel_rfl) Try.call74 (fun _ => by kernel_rfl) (link74 g false _ h) (fun ret4v h => ?_)
 refine rqT 1 ⟨5, [s1 2 (.pW ret4v)], []⟩ (by kernel_rfl) ?_
 refine nn ?_
 refine aw_ret ?_
 exact retQ_r (ob := Ts 1 True) _ (by kernel_rfl) (tsI 1 trivial) h
abbrev e42_0 (g : TG) : Nat × Path × Con := hB 1 [.pI g.1, .pI g.2.1, .pI g.2.2.1, .p (.sl tR) g.2.2.2]
abbrev e42_1 (g : TG) (v16 : Int) : Nat × Path × Con := hB 6 [.pI ((g.2.2.2.getD (v16).toNat ((0 : Int), ([] : LI))).1), .pS ((g.2.2.2.getD (v16).toNat ((0 : Int), ([] : LI))).2)]
abbrev e42_2 (g : TG) : Nat × Path × AV := s1 14 (.p (.sl tR) g.2.2.2)
abbrev e42_3 (g : TG) (v16 : Int) : Nat × Path × AV := sI 22 (((g.2.2.2.getD (v16).toNat ((0 : Int), ([] : LI))).2).length : Int)
abbrev e42_4 (g : TG) (v16 : Int) : Nat × Path × AV := s1 21 (.pS ((g.2.2.2.getD (v16).toNat ((0 : Int), ([] : LI))).2))
abbrev e42_5 (g : TG) : Nat × Path × AV := sI 15 (g.2.2.2.length : Int)
abbrev e42_6 (g : TG) (v16 : Int) (v23 : Int) : Nat × Path × AV := sI 8 (((g.2.2.2.getD (v16).toNat ((0 : Int), ([] : LI))).2).getD (v23).toNat (0 : Int))
abbrev e42_7 (out : Int) : Nat × Path × AV := s1 4 (.pW out)
abbrev e42_8 (g : TG) (v16 : Int) (v23 : Int) : Nat × Path × AV := sB 31 (decide (g.1 ≤ (((g.2.2.2.getD (v16).toNat ((0 : Int), ([] : LI))).2).getD (v23).toNat (0 : Int))))
-- coppicer/grammar.Reachable
def VC42_k1 (K : Int → Prop) (out : Int) (X1 : Int → Prop) (out2 : Int) : Prop :=
  (((decide (out2 = out)) = true → K out2) ∧ ((decide (out2 = out)) = false → X1 out2))
def VC42_k2 (v16 : Int) (X2 : Int × Int → Prop) (out3 : Int) : Prop :=
  (InR (v16 + (1 : Int)) ∧ X2 (out3, (v16 + (1 : Int))))
def VC42_k3 (v23 : Int) (X3 : Int × Int → Prop) (out4 : Int) : Prop :=
  (InR (v23 + (1 : Int)) ∧ X3 (out4, (v23 + (1 : Int))))
def VC42_l3 (g : TG) (v16 : Int) (X2 : Int × Int → Prop) (out3 : Int) (v23 : Int) (X3 : Int × Int → Prop) : Prop :=
  (((decide (v23 < (((g.2.2.2.getD (v16).toNat ((0 : Int), ([] : LI))).2).length : Int))) = true → (inIdx v23 ((g.2.2.2.getD (v16).toNat ((0 : Int), ([] : LI))).2).length ∧ gcall (α := Bool) (decide (g.1 ≤ (((g.2.2.2.getD (v16).toNat ((0 : Int), ([] : LI))).2).getD (v23).toNat (0 : Int)))) (VC47 out3 ((g.2.2.2.getD (v16).toNat ((0 : Int), ([] : LI))).1)) false (fun (ret35v : Bool) => ((((decide (g.1 ≤ (((g.2.2.2.getD (v16).toNat ((0 : Int), ([] : LI))).2).getD (v23).toNat (0 : Int)))) && ret35v) = true → (InR ((((g.2.2.2.getD (v16).toNat ((0 : Int), ([] : LI))).2).getD (v23).toNat (0 : Int)) - g.1) ∧ 0 ≤ ((((g.2.2.2.getD (v16).toNat ((0 : Int), ([] : LI))).2).getD (v23).toNat (0 : Int)) - g.1) ∧ VC42_k3 v23 X3 (bOr .u32 out3 (bShl .u32 (1 : Int) ((((g.2.2.2.getD (v16).toNat ((0 : Int), ([] : LI))).2).getD (v23).toNat (0 : Int)) - g.1))))) ∧ (((decide (g.1 ≤ (((g.2.2.2.getD (v16).toNat ((0 : Int), ([] : LI))).2).getD (v23).toNat (0 : Int)))) && ret35v) = false → VC42_k3 v23 X3 out3))))) ∧ ((decide (v23 < (((g.2.2.2.getD (v16).toNat ((0 : Int), ([] : LI))).2).length : Int))) = false → VC42_k2 v16 X2 out3))
def VC42_l2 (g : TG) (K : Int → Prop) (out : Int) (X1 : Int → Prop) (out2 : Int) (v16 : Int) (X2 : Int × Int → Prop) : Prop :=
  (((decide (v16 < (g.2.2.2.length : Int))) = true → (inIdx v16 g.2.2.2.length ∧ Loop (σ := Int × Int) (fun s X => VC42_l3 g v16 X2 s.1 s.2 X) (out2, (0 : Int)))) ∧ ((decide (v16 < (g.2.2.2.length : Int))) = false → VC42_k1 K out X1 out2))
def VC42_l1 (g : TG) (K : Int → Prop) (out : Int) (X1 : Int → Prop) : Prop :=
  Loop (σ := Int × Int) (fun s X => VC42_l2 g K out X1 s.1 s.2 X) (out, (0 : Int))
def VC42 (g : TG) (K : Int → Prop) : Prop :=
  (0 ≤ g.2.2.1 ∧ Loop (σ := Int) (fun s X => VC42_l1 g K s X) (bShl .u32 (1 : Int) g.2.2.1))
set_option maxHeartbeats 4000000 in
theorem link42 (g : TG) (K : Int → Prop) (h : VC42 g K) : ACalls Try.prog 42 [toV1 tG g] (fun res => ∃ y, res = (fun y => [toV1 (.int .u32) y]) y ∧ K y) := by
 refine acalls_of_aw [(.int .u32)] [.t 2] Try.func42 rfl rfl rfl ?_
 unfold VC42 at h
 refine sr ?_
 refine rqT 2 ⟨50, [sp 1 1], [e42_0 g]⟩ (by kernel_rfl) ?_
 refine nsr ?_
 obtain ⟨o1, h⟩ := h
 refine rq 4 (ob := (Ts 2 (0 ≤ g.2.2.1 ∧ Ts 1 True))) (st' := (⟨50, [sp 1 1, s1 3 (.pW (bShl .u32 (1 : Int) g.2.2.1))], [e42_0 g]⟩ : St)) (by kernel_rfl) (tsI 2 ⟨o1, tsI 1 trivial⟩) ?_
 refine nn ?_
 refine aw_block ?_
 refine aw_loop (σ := Int) (fun s => (⟨50, [sp 1 1, s1 3 (.pW s)], [e42_0 g]⟩ : St)) (fun s X => VC42_l1 g K s X) (s0 := (bShl .u32 (1 : Int) g.2.2.1)) (fun out X1 h => ?_) h
 have h : VC42_l1 g K out X1 := h
 unfold VC42_l1 at h
 refine aw_block ?_
 refine srn 2 ⟨50, [sp 1 1, s1 3 (.pW out), e42_7 out], [e42_0 g]⟩ (by kernel_rfl) rfl ?_
 refine aw_seq ?_
 refine srn 4 ⟨50, [sp 1 1, s1 3 (.pW out), e42_7 out, e42_2 g, e42_5 g, sI 16 (0 : Int)], [e42_0 g]⟩ (by kernel_rfl) rfl ?_
 refine withJoin (σ := Int) (fun s => (⟨50, [sp 1 1, s1 3 (.pW s), e42_7 out], [e42_0 g]⟩ : St)) (fun s => VC42_k1 K out X1 s) (fun out2 h => ?_) (fun rest1 => ?_)
 ·have h : VC42_k1 K out X1 out2 := h
  unfold VC42_k1 at h
  refine thenQ_n ?_
  refine srn 3 ⟨50, [sp 1 1, s1 3 (.pW out2), sB 48 (decide (out2 = out))], [e42_0 g]⟩ (by kernel_rfl) rfl ?_
  refine aw_cond (b := (decide (out2 = out))) (by kernel_rfl) (fun hb => ?_) (fun hb => ?_)
  ·have h := h.1 hb
   refine srn 2 ⟨50, [s1 2 (.pW out2)], []⟩ (by kernel_rfl) rfl ?_
   refine aw_ret ?_
   refine blockQ_r ?_
   refine thenQ_r ?_
   refine blockQ_r ?_
   exact retQ_r (ob := Ts 1 True) _ (by kernel_rfl) (tsI 1 trivial) h
  ·have h := h.2 hb
   refine cpr (st' := (⟨50, [sp 1 1, s1 3 (.pW out2)], [e42_0 g]⟩ : St)) (by kernel_rfl) ?_
   refine aw_skip ?_
   refine blockQ_n ?_
   exact thenQ_n ⟨out2, rfl, h⟩
 ·refine aw_block ?_
  refine aw_loop (σ := Int × Int) (fun s => (⟨50, [sp 1 1, s1 3 (.pW s.1), e42_7 out, e42_2 g, e42_5 g, sI 16 s.2], [e42_0 g]⟩ : St)) (fun s X => VC42_l2 g K out X1 s.1 s.2 X) (s0 := (out, (0 : Int))) (fun s X2 h => ?_) h
  obtain ⟨out2, v16⟩ := s
  have h : VC42_l2 g K out X1 out2 v16 X2 := h
  unfold VC42_l2 at h
  refine srn 1 ⟨50, [sp 1 1, s1 3 (.pW out2), e42_7 out, e42_2 g, e42_5 g, sI 16 v16, sB 17 (decide (v16 < (g.2.2.2.length : Int)))], [e42_0 g]⟩ (by kernel_rfl) rfl ?_
  refine aw_seq ?_
  refine aw_cond (b := (decide (v16 < (g.2.2.2.length : Int)))) (by kernel_rfl) (fun hb => ?_) (fun hb => ?_)
  ·have h := h.1 hb
   refine aw_skip ?_
   refine thenQ_n ?_
   refine aw_seq ?_
   refine aw_block ?_
   refine sr ?_
   obtain ⟨o1, h⟩ := h
   refine rq 4 (ob := (inIdx v16 g.2.2.2.length ∧ Ts 3 True)) (st' := (⟨50, [sp 1 1, s1 3 (.pW out2), e42_7 out, sp 6 6, e42_2 g, e42_5 g, sI 16 v16], [e42_0 g, e42_1 g v16]⟩ : St)) (by kernel_rfl) (⟨o1, tsI 3 trivial⟩) ?_
   refine nsr ?_
   refine rqT 4 ⟨50, [sp 1 1, s1 3 (.pW out2), e42_7 out, sp 6 6, e42_2 g, e42_5 g, sI 16 v16, e42_4 g v16, e42_3 g v16, sI 23 (0 : Int)], [e42_0 g, e42_1 g v16]⟩ (by kernel_rfl) ?_
   refine nn ?_
   refine withJoin (σ := Int) (fun s => (⟨50, [sp 1 1, s1 3 (.pW s), e42_7 out, e42_2 g, e42_5 g, sI 16 v16], [e42_0 g]⟩ : St)) (fun s => VC42_k2 v16 X2 s) (fun out3 h => ?_) (fun rest2 => ?_)
   ·have h : VC42_k2 v16 X2 out3 := h
    unfold VC42_k2 at h
    refine blockQ_n ?_
    refine thenQ_n ?_
    refine aw_region ?_
    obtain ⟨o1, h⟩ := h
    refine rq 2 (ob := (InR (v16 + (1 : Int)) ∧ Ts 1 True)) (st' := (⟨50, [sp 1 1, s1 3 (.pW out3), e42_7 out, e42_2 g, e42_5 g, sI 16 (v16 + (1 : Int))], [e42_0 g]⟩ : St)) (by kernel_rfl) (⟨o1, tsI 1 trivial⟩) ?_
    refine awl_nil ?_
    exact thenQ_n ⟨(out3, (v16 + (1 : Int))), rfl, h⟩
   ·refine aw_block ?_
    refine aw_loop (σ := Int × Int) (fun s => (⟨50, [sp 1 1, s1 3 (.pW s.1), e42_7 out, sp 6 6, e42_2 g, e42_5 g, sI 16 v16, e42_4 g v16, e42_3 g v16, sI 23 s.2], [e42_0 g, e42_1 g v16]⟩ : St)) (fun s X => VC42_l3 g v16 X2 s.1 s.2 X) (s0 := (out2, (0 : Int))) (fun s X3 h => ?_) h
    obtain ⟨out3, v23⟩ := s
    have h : VC42_l3 g v16 X2 out3 v23 X3 := h
    unfold VC42_l3 at h
    refine srn 1 ⟨50, [sp 1 1, s1 3 (.pW out3), e42_7 out, sp 6 6, e42_2 g, e42_5 g, sI 16 v16, e42_4 g v16, e42_3 g v16, sI 23 v23, sB 24 (decide (v23 < (((g.2.2.2.getD (v16).toNat ((0 : Int), ([] : LI))).2).length : Int)))], [e42_0 g, e42_1 g v16]⟩ (by kernel_rfl) rfl ?_
    refine aw_seq ?_
    refine aw_cond (b := (decide (v23 < (((g.2.2.2.getD (v16).toNat ((0 : Int), ([] : LI))).2).length : Int)))) (by kernel_rfl) (fun hb => ?_) (fun hb => ?_)
    ·have h := h.1 hb
     refine aw_skip ?_
     refine thenQ_n ?_
     refine aw_seq ?_
     refine aw_block ?_
     refine sr ?_
     obtain ⟨o1, h⟩ := h
     refine rq 3 (ob := (inIdx v23 ((g.2.2.2.getD (v16).toNat ((0 : Int), ([] : LI))).2).length ∧ Ts 2 True)) (st' := (⟨50, [sp 1 1, s1 3 (.pW out3), e42_7 out, sp 6 6, e42_6 g v16 v23, e42_2 g, e42_5 g, sI 16 v16, e42_4 g v16, e42_3 g v16, sI 23 v23], [e42_0 g, e42_1 g v16]⟩ : St)) (by kernel_rfl) (⟨o1, tsI 2 trivial⟩) ?_
     refine nsr ?_
     refine rq 8 (ob := (Ts 5 (Ti 3 ((decide (g.1 ≤ (((g.2.2.2.getD (v16).toNat ((0 : Int), ([] : LI))).2).getD (v23).toNat (0 : Int)))) = true → True) True))) (st' := (⟨50, [sp 1 1, s1 3 (.pW out3), e42_7 out, sp 6 6, e42_6 g v16 v23, e42_2 g, e42_5 g, sI 16 v16, e42_4 g v16, e42_3 g v16, sI 23 v23, e42_8 g v16 v23, (32, [(31, true)], .v (.c (.pW out3))), (34, [(31, true)], .v (.c (.pI ((g.2.2.2.getD (v16).toNat ((0 : Int), ([] : LI))).1))))], [e42_0 g, e42_1 g v16]⟩ : St)) (by kernel_rfl) (tsI 5 (tiI 3 (fun _ => trivial) trivial)) ?_
     refine awl_callk (p := [(31, true)]) (l := [toV1 (.int .u32) out3, toV1 tI ((g.2.2.2.getD (v16).toNat ((0 : Int), ([] : LI))).1)]) (cl := []) false [.d (.int .u32), .d tI] [1, 3, 4, 6, 8, 14, 15, 16, 21, 22, 23, 31, 35] [1, 6] (fun (ret35v : Bool) => ((((decide (g.1 ≤ (((g.2.2.2.getD (v16).toNat ((0 : Int), ([] : LI))).2).getD (v23).toNat (0 : Int)))) && ret35v) = true → (InR ((((g.2.2.2.getD (v16).toNat ((0 : Int), ([] : LI))).2).getD (v23).toNat (0 : Int)) - g.1) ∧ 0 ≤ ((((g.2.2.2.getD (v16).toNat ((0 : Int), ([] : LI))).2).getD (v23).toNat (0 : Int)) - g.1) ∧ VC42_k3 v23 X3 (bOr .u32 out3 (bShl .u32 (1 : Int) ((((g.2.2.2.getD (v16).toNat ((0 : Int), ([] : LI))).2).getD (v23).toNat (0 : Int)) - g.1))))) ∧ (((decide (g.1 ≤ (((g.2.2.2.getD (v16).toNat ((0 : Int), ([] : LI))).2).getD (v23).toNat (0 : Int)))) && ret35v) = false → VC42_k3 v23 X3 out3))) (fun ret35v => [toV1 .bool ret35v]) (fun ret35v => (⟨50, [sp 1 1, s1 3 (.pW out3), e42_7 out, sp 6 6, e42_6 g v16 v23, e42_2 g, e42_5 g, sI 16 v16, e42_4 g v16, e42_3 g v16, sI 23 v23, e42_8 g v16 v23, (35, [(31, true)], .v (.c (.pB ret35v)))], [e42_0 g, e42_1 g v16]⟩ : St)) (by kernel_rfl) rfl (by kernel_rfl) rfl (by kernel_rfl) Try.call47 (by kernel_rfl) (fun ret35v => by kernel_rfl) (fun e => by cases e) (fun hg => link47 out3 ((g.2.2.2.getD (v16).toNat ((0 : Int), ([] : LI))).1) _ (by have := gcall_T h (show (decide (g.1 ≤ (((g.2.2.2.getD (v16).toNat ((0 : Int), ([] : LI))).2).getD (v23).toNat (0 : Int)))) = true from hg); exact this)) (fun hg => ⟨false, by have := gcall_F h (show (decide (g.1 ≤ (((g.2.2.2.getD (v16).toNat ((0 : Int), ([] : LI))).2).getD (v23).toNat (0 : Int)))) = false from hg); exact this⟩) (fun ret35v h => ?_)
     refine rqT 1 ⟨50, [sp 1 1, s1 3 (.pW out3), e42_7 out, sp 6 6, e42_6 g v16 v23, e42_2 g, e42_5 g, sI 16 v16, e42_4 g v16, e42_3 g v16, sI 23 v23, sB 36 ((decide (g.1 ≤ (((g.2.2.2.getD (v16).toNat ((0 : Int), ([] : LI))).2).getD (v23).toNat (0 : Int)))) && ret35v)], [e42_0 g, e42_1 g v16]⟩ (by kernel_rfl) ?_
     refine nn ?_
     refine withJoin (σ := Int) (fun s => (⟨50, [sp 1 1, s1 3 (.pW s), e42_7 out, sp 6 6, e42_2 g, e42_5 g, sI 16 v16, e42_4 g v16, e42_3 g v16, sI 23 v23], [e42_0 g, e42_1 g v16]⟩ : St)) (fun s => VC42_k3 v23 X3 s) (fun out4 h => ?_) (fun rest3 => ?_)
     ·have h : VC42_k3 v23 X3 out4 := h
      unfold VC42_k3 at h
      refine blockQ_n ?_
      refine thenQ_n ?_
      refine aw_region ?_
      obtain ⟨o1, h⟩ := h
      refine rq 2 (ob := (InR (v23 + (1 : Int)) ∧ Ts 1 True)) (st' := (⟨50, [sp 1 1, s1 3 (.pW out4), e42_7 out, sp 6 6, e42_2 g, e42_5 g, sI 16 v16, e42_4 g v16, e42_3 g v16, sI 23 (v23 + (1 : Int))], [e42_0 g, e42_1 g v16]⟩ : St)) (by kernel_rfl) (⟨o1, tsI 1 trivial⟩) ?_
      refine awl_nil ?_
      exact thenQ_n ⟨(out4, (v23 + (1 : Int))), rfl, h⟩
     ·refine aw_cond (b := ((decide (g.1 ≤ (((g.2.2.2.getD (v16).toNat ((0 : Int), ([] : LI))).2).getD (v23).toNat (0 : Int)))) && ret35v)) (by kernel_rfl) (fun hb => ?_) (fun hb => ?_)
      ·have h := h.1 hb
       refine aw_region ?_
       obtain ⟨o1, o2, h⟩ := h
       refine rq 8 (ob := (Ts 4 (InR ((((g.2.2.2.getD (v16).toNat ((0 : Int), ([] : LI))).2).getD (v23).toNat (0 : Int)) - g.1) ∧ 0 ≤ ((((g.2.2.2.getD (v16).toNat ((0 : Int), ([] : LI))).2).getD (v23).toNat (0 : Int)) - g.1) ∧ Ts 2 True))) (st' := (⟨50, [sp 1 1, s1 3 (.pW (bOr .u32 out3 (bShl .u32 (1 : Int) ((((g.2.2.2.getD (v16).toNat ((0 : Int), ([] : LI))).2).getD (v23).toNat (0 : Int)) - g.1)))), e42_7 out, sp 6 6, e42_2 g, e42_5 g, sI 16 v16, e42_4 g v16, e42_3 g v16, sI 23 v23], [e42_0 g, e42_1 g v16]⟩ : St)) (by kernel_rfl) (tsI 4 (⟨o1, ⟨o2, tsI 2 trivial⟩⟩)) ?_
       refine awl_nil ?_
       exact rest3 (bOr .u32 out3 (bShl .u32 (1 : Int) ((((g.2.2.2.getD (v16).toNat ((0 : Int), ([] : LI))).2).getD (v23).toNat (0 : Int)) - g.1))) h
      ·have h := h.2 hb
       refine cpr (st' := (⟨50, [sp 1 1, s1 3 (.pW out3), e42_7 out, sp 6 6, e42_2 g, e42_5 g, sI 16 v16, e42_4 g v16, e42_3 g v16, sI 23 v23], [e42_0 g, e42_1 g v16]⟩ : St)) (by kernel_rfl) ?_
       refine aw_skip ?_
       exact rest3 out3 h
    ·have h := h.2 hb
     refine cpr (st' := (⟨50, [sp 1 1, s1 3 (.pW out3), e42_7 out, e42_2 g, e42_5 g, sI 16 v16], [e42_0 g]⟩ : St)) (by kernel_rfl) ?_
     refine aw_exit ?_
     refine thenQ_x ?_
     refine thenQ_x ?_
     refine blockQ_hit ?_
     exact rest2 out3 h
  ·have h := h.2 hb
   refine cpr (st' := (⟨50, [sp 1 1, s1 3 (.pW out2), e42_7 out], [e42_0 g]⟩ : St)) (by kernel_rfl) ?_
   refine aw_exit ?_
   refine thenQ_x ?_
   refine thenQ_x ?_
   refine blockQ_hit ?_
   exact rest1 out2 h
abbrev e29_0 (g : TG) (sv : Int) : Nat × Path × Con := hB 30003 [.pI g.1, .pI g.2.1, .pI g.2.2.1, .p (.sl tR) g.2.2.2, .own 30001, .own 30002, .pW sv]
abbrev e29_1 (g : TG) : Nat × Path × Con := hB 1 [.pI g.1, .pI g.2.1, .pI g.2.2.1, .p (.sl tR) g.2.2.2]
abbrev e29_2 (g : TG) (sv : Int) : Nat × Path × Con := hB 23 [.pI g.1, .pI g.2.1, .pI g.2.2.1, .p (.sl tR) g.2.2.2, .own 16, .own 19, .pW sv]
abbrev e29_3 (g : TG) (sv : Int) : Nat × Path × Con := hB 30504 [.pI g.1, .pI g.2.1, .pI g.2.2.1, .p (.sl tR) g.2.2.2, .own 30502, .own 30503, .pW sv]
abbrev e29_4 (g : TG) : Nat × Path × Con := hB 30000 [.pI g.1, .pI g.2.1, .pI g.2.2.1, .p (.sl tR) g.2.2.2]
abbrev e29_5 (g : TG) : Nat × Path × Con := hB 30500 [.pI g.1, .pI g.2.1, .pI g.2.2.1, .p (.sl tR) g.2.2.2]
abbrev e29_6 (g : TG) : Nat × Path × Con := hA 19 28 (.int .u32) (List.replicate (g.2.1).toNat (0 : Int))
abbrev e29_7 (g : TG) (v28 : Int) : Nat × Path × Con := hB 30501 [.pI ((g.2.2.2.getD (v28).toNat ((0 : Int), ([] : LI))).1), .pS ((g.2.2.2.getD (v28).toNat ((0 : Int), ([] : LI))).2)]
abbrev e29_8 (g : TG) : Nat × Path × Con := hA 30503 28 (.int .u32) (List.replicate (g.2.1).toNat (0 : Int))
abbrev e29_9 (g : TG) : Nat × Path × Con := hA 16 28 (.int .u32) (List.replicate (g.2.1).toNat (0 : Int))
abbrev e29_10 (l16 : LI) : Nat × Path × Con := hA 30001 28 (.int .u32) l16
abbrev e29_11 (g : TG) : Nat × Path × AV := sA 13 [.pI g.1, .pI g.2.1, .pI g.2.2.1, .p (.sl tR) g.2.2.2]
abbrev e29_12 (g : TG) (ret21v : Int) : Nat × Path × Con := hB 23 [.pI g.1, .pI g.2.1, .pI g.2.2.1, .p (.sl tR) g.2.2.2, .own 16, .own 19, .pW ret21v]
abbrev e29_13 (g : TG) : Nat × Path × AV := s1 84 (.p (.sl tR) g.2.2.2)
abbrev e29_14 (g : TG) : Nat × Path × AV := s1 83 (.p (.sl tR) g.2.2.2)
abbrev e29_15 (g : TG) : Nat × Path × AV := s1 26 (.p (.sl tR) g.2.2.2)
abbrev e29_16 : Nat × Path × Con := hB 30200 [.ptr 30003 0]
abbrev e29_17 (g : TG) (v86 : Int) : Nat × Path × AV := s1 1 (.ad (.sl tI) ((g.2.2.2.getD (v86).toNat ((0 : Int), ([] : LI))).2))
abbrev e29_18 (l192 : LI) (g : TG) (v86 : Int) : Nat × Path × Con := hB 30202 [.pW (l192.getD (((g.2.2.2.getD (v86).toNat ((0 : Int), ([] : LI))).1).toNat) (0 : Int))]
abbrev e29_19 (l162 : LI) : Nat × Path × Con := hA 30502 28 (.int .u32) l162
abbrev e29_20 (g : TG) (v28 : Int) : Nat × Path × AV := sI 10 (((g.2.2.2.getD (v28).toNat ((0 : Int), ([] : LI))).2).length : Int)
abbrev e29_21 (out : Int) (l162 : LI) (g : TG) (v28 : Int) (v11 : Int) : Nat × Path × AV := s1 6 (.pW (bOr .u32 out (l162.getD ((((((g.2.2.2.getD (v28).toNat ((0 : Int), ([] : LI))).2).getD (v11).toNat (0 : Int)) - g.1)).toNat) (0 : Int))))
abbrev e29_22 (g : TG) (ret21v : Int) : Nat × Path × AV := sA 22 [.pI g.1, .pI g.2.1, .pI g.2.2.1, .p (.sl tR) g.2.2.2, .own 16, .own 19, .pW ret21v]
abbrev e29_23 (g : TG) : Nat × Path × AV := s1 192 (.p (.sl tR) g.2.2.2)
abbrev e29_24 (g : TG) : Nat × Path × AV := s1 173 (.p (.sl tR) g.2.2.2)
abbrev e29_25 (g : TG) (v28 : Int) : Nat × Path × AV := s1 9 (.pS ((g.2.2.2.getD (v28).toNat ((0 : Int), ([] : LI))).2))
abbrev e29_26 (l16 : LI) : Nat × Path × Con := hA 16 28 (.int .u32) l16
abbrev e29_27 (g : TG) (v86 : Int) : Nat × Path × Con := hB 3 [.pI ((g.2.2.2.getD (v86).toNat ((0 : Int), ([] : LI))).1), .pS ((g.2.2.2.getD (v86).toNat ((0 : Int), ([] : LI))).2)]
abbrev e29_28 (g : TG) : Nat × Path × AV := sI 85 (g.2.2.2.length : Int)
abbrev e29_29 (l192 : LI) : Nat × Path × Con := hA 30002 28 (.int .u32) l192
abbrev e29_30 (l30002 : LI) : Nat × Path × Con := hA 30002 28 (.int .u32) l30002
abbrev e29_31 (g : TG) : Nat × Path × AV := sI 84 (g.2.2.2.length : Int)
abbrev e29_32 (ret71v : Int) : Nat × Path × AV := s1 9 (.pW ret71v)
abbrev e29_33 (g : TG) : Nat × Path × AV := sI 27 (g.2.2.2.length : Int)
abbrev e29_34 (g : TG) : Nat × Path × AV := sA 20 [.pI g.1, .pI g.2.1, .pI g.2.2.1, .p (.sl tR) g.2.2.2]
abbrev e29_35 (l162 : LI) (g : TG) (v28 : Int) (v4 : Int) : Nat × Path × Con := hA 30502 28 (.int .u32) (l162.set (((g.2.2.2.getD (v28).toNat ((0 : Int), ([] : LI))).1).toNat) (bOr .u32 (l162.getD (((g.2.2.2.getD (v28).toNat ((0 : Int), ([] : LI))).1).toNat) (0 : Int)) v4))
abbrev e29_36 (g : TG) (v86 : Int) : Nat × Path × Con := hB 12 [.pI ((g.2.2.2.getD (v86).toNat ((0 : Int), ([] : LI))).1), .pS ((g.2.2.2.getD (v86).toNat ((0 : Int), ([] : LI))).2)]
abbrev e29_37 (g : TG) : Nat × Path × AV := sI 193 (g.2.2.2.length : Int)
abbrev e29_38 (c8 : Int) : Nat × Path × Con := hB 30202 [.pW c8]
abbrev e29_39 (g : TG) : Nat × Path × AV := sI 174 (g.2.2.2.length : Int)
abbrev e29_40 (c1 : LI) : Nat × Path × Con := hA 30002 28 (.int .u32) c1
abbrev e29_41 (g : TG) (v86 : Int) : Nat × Path × AV := (96, [(94, true)], .v (.agg [.pI ((g.2.2.2.getD (v86).toNat ((0 : Int), ([] : LI))).1), .pS ((g.2.2.2.getD (v86).toNat ((0 : Int), ([] : LI))).2)]))
abbrev e29_42 (g : TG) (v28 : Int) (v11 : Int) : Nat × Path × AV := sI 8 (((g.2.2.2.getD (v28).toNat ((0 : Int), ([] : LI))).2).getD (v11).toNat (0 : Int))
abbrev e29_43 (g : TG) (v28 : Int) : Nat × Path × Con := hB 6 [.pI ((g.2.2.2.getD (v28).toNat ((0 : Int), ([] : LI))).1), .pS ((g.2.2.2.getD (v28).toNat ((0 : Int), ([] : LI))).2)]
abbrev e29_44 (g : TG) : Nat × Path × AV := s1 177 (.p (.sl tR) g.2.2.2)
abbrev e29_45 : Nat × Path × AV := sp 89 30003
abbrev e29_46 : Nat × Path × AV := sp 90 30200
abbrev e29_47 : Nat × Path × AV := sp 91 30201
abbrev e29_48 : Nat × Path × AV := sp 92 30202
abbrev e29_49 : Nat × Path × AV := s1 90219 (.yv 37200)
abbrev e29_50 (ret71v : Int) : Nat × Path × AV := s1 117 (.pW ret71v)
abbrev e29_51 (g : TG) : Nat × Path × Con := hA 19 28 (.int .u32) ((List.replicate (g.2.1).toNat (0 : Int)).set ((g.2.2.1).toNat) (bShl .u32 (1 : Int) g.1))
abbrev e29_52 (c7 : Bool) : Nat × Path × Con := hB 30201 [.pB c7]
abbrev e29_53 : Nat × Path × AV := sp 58 30500
abbrev e29_54 : Nat × Path × AV := sp 60 30504
abbrev e29_55 : Nat × Path × AV := sp 63 30501
abbrev e29_56 (g : TG) (v28 : Int) : Nat × Path × AV := s1 1 (.pS ((g.2.2.2.getD (v28).toNat ((0 : Int), ([] : LI))).2))
abbrev e29_57 : Nat × Path × AV := sp 6 30202
abbrev e29_58 : Nat × Path × AV := s1 16 (.own 16)
abbrev e29_59 : Nat × Path × AV := s1 19 (.own 19)
abbrev e29_60 : Nat × Path × AV := sp 2 30200
abbrev e29_61 : Nat × Path × Con := hB 30201 [.pB false]
abbrev e29_62 : Nat × Path × AV := s1 0 (.yv 37200)
abbrev e29_63 (l192 : LI) : Nat × Path × Con := hA 19 28 (.int .u32) l192
abbrev e29_64 : Nat × Path × AV := sp 109 30000
abbrev e29_65 : Nat × Path × AV := sp 111 30003
abbrev e29_66 : Nat × Path × AV := sp 24 30201
abbrev e29_67 : Nat × Path × AV := sp 1 30000
abbrev e29_68 : Nat × Path × AV := sp 3 30003
abbrev e29_69 : Nat × Path × AV := sp 0 30504
abbrev e29_70 : Nat × Path × AV := sp 90 30000
abbrev e29_71 : Nat × Path × AV := sp 92 30003
abbrev e29_72 : Nat × Path × AV := sp 5 30201
abbrev e29_73 : Nat × Path × AV := sp 1 30500
abbrev e29_74 : Nat × Path × AV := sp 3 30504
abbrev e29_75 (g : TG) : Nat × Path × AV := sI 178 (g.2.2.2.length : Int)
abbrev e29_76 : Nat × Path × Con := hB 2 [.ptr 30003 0]
abbrev e29_n0 : List Nat := [37200, 30001, 30002, 30003, 30200, 30201, 30202]
-- coppicer/ahead.make1
def VCo52_k3 (g : TG) (K : Int × Int × Int × LR × Int × LI × LI → Prop) (sv : Int) (l16 : LI) (l19 : LI) : Prop :=
  K (g.1, g.2.1, g.2.2.1, g.2.2.2, sv, l16, l19)
def VCo52_k4 (X1 : Bool × LI → Prop) (grown2 : Bool) (l192 : LI) : Prop :=
  X1 (grown2, l192)
def VCo52_k5 (v86 : Int) (X2 : Bool × Int × LI → Prop) (grown3 : Bool) (l30002 : LI) : Prop :=
  (InR (v86 + (1 : Int)) ∧ X2 (grown3, (v86 + (1 : Int)), l30002))
abbrev VCo52_s1 (t0 : Nat) (t1 : Nat) (t2 : Nat) : List (Nat × AV) := [(2, .v (.c (.ptr t0 0))), (5, .v (.c (.ptr t1 0))), (6, .v (.c (.ptr t2 0)))]
def VCo52_k6 (Kt : LI × Bool × Int → Prop) (l30002 : LI) (l30201 : Bool) (sv2 : Int) : Prop :=
  Kt (l30002, l30201, sv2)
def VCo52_k8 (Kt : LI × Bool × Int → Prop) (l30002 : LI) (l30201 : Bool) (sv2 : Int) : Prop :=
  VCo52_k6 Kt l30002 l30201 sv2
def VCo52_k7 (g : TG) (sv : Int) (l16 : LI) (a22 : Int) (c8 : Int) (Kt : LI × Bool × Int → Prop) (l30002 : LI) (l30201 : Bool) : Prop :=
  VC47 sv (a22 - g.1) (fun (ret71v2 : Bool) => ((ret71v2 = true → (inIdx (a22 - g.1) l16.length ∧ VCo52_k8 Kt l30002 l30201 (bOr .u32 c8 (l16.getD (((a22 - g.1)).toNat) (0 : Int))))) ∧ (ret71v2 = false → (inIdx (a22 - g.1) l16.length ∧ VCo52_k8 Kt l30002 l30201 (l16.getD (((a22 - g.1)).toNat) (0 : Int))))))
def VCo52_y1 (g : TG) (sv : Int) (l16 : LI) (a21 : Int) (a22 : Int) (c1 : LI) (c7 : Bool) (c8 : Int) (Kt : LI × Bool × Int → Prop) (Kf : (Int × LI × Bool × Int) → Prop) : Prop :=
  (((decide (a22 < g.1)) = true → (0 ≤ a22 ∧ VCo52_k6 Kt c1 c7 (bShl .u32 (1 : Int) a22))) ∧ ((decide (a22 < g.1)) = false → (InR (a22 - g.1) ∧ (inIdx (a22 - g.1) c1.length ∧ inIdx (a22 - g.1) c1.length ∧ (((!decide ((bOr .u32 (c1.getD (((a22 - g.1)).toNat) (0 : Int)) c8) = (c1.getD (((a22 - g.1)).toNat) (0 : Int)))) = true → (inIdx (a22 - g.1) c1.length ∧ (inIdx (a22 - g.1) c1.length ∧ VCo52_k7 g sv l16 a22 c8 Kt (c1.set (((a22 - g.1)).toNat) (bOr .u32 (c1.getD (((a22 - g.1)).toNat) (0 : Int)) c8)) true))) ∧ ((!decide ((bOr .u32 (c1.getD (((a22 - g.1)).toNat) (0 : Int)) c8) = (c1.getD (((a22 - g.1)).toNat) (0 : Int)))) = false → VCo52_k7 g sv l16 a22 c8 Kt c1 c7))))))
def VCo52_k10 (v86 : Int) (X2 : Bool × Int × LI → Prop) (l30002 : LI) (grown4 : Bool) : Prop :=
  VCo52_k5 v86 X2 grown4 l30002
def VCo52_k9 (grown2 : Bool) (v86 : Int) (X2 : Bool × Int × LI → Prop) (ret93v : Bool) (l30002 : LI) (grown3 : Bool) (l30202 : Int) : Prop :=
  (((ret93v && grown3) = true → VCo52_k10 v86 X2 l30002 true) ∧ ((ret93v && grown3) = false → VCo52_k10 v86 X2 l30002 grown2))
def VCo52_l3 (g : TG) (sv : Int) (l16 : LI) (grown2 : Bool) (v86 : Int) (X2 : Bool × Int × LI → Prop) (ret93v : Bool) (i : Int) (l30002 : LI) (grown3 : Bool) (l30202 : Int) (X3 : Int × LI × Bool × Int → Prop) : Prop :=
  (((decide ((0 : Int) ≤ i)) = true → (inIdx i ((g.2.2.2.getD (v86).toNat ((0 : Int), ([] : LI))).2).length ∧ VCo52_y1 g sv l16 i (((g.2.2.2.getD (v86).toNat ((0 : Int), ([] : LI))).2).getD (i).toNat (0 : Int)) l30002 grown3 l30202 (fun (yt17v : LI × Bool × Int) => (InR (i - (1 : Int)) ∧ X3 ((i - (1 : Int)), yt17v.1, yt17v.2.1, yt17v.2.2))) (fun (yf17 : Int × LI × Bool × Int) => False))) ∧ ((decide ((0 : Int) ≤ i)) = false → VCo52_k9 grown2 v86 X2 ret93v l30002 grown3 l30202))
def VCo52_k11 (v86 : Int) (l192 : LI) (X2 : Bool × Int × LI → Prop) (grown3 : Bool) : Prop :=
  VCo52_k5 v86 X2 grown3 l192
def VCo52_l2 (g : TG) (sv : Int) (l16 : LI) (ret71v : Int) (X1 : Bool × LI → Prop) (grown2 : Bool) (v86 : Int) (l192 : LI) (X2 : Bool × Int × LI → Prop) : Prop :=
  (((decide (v86 < (g.2.2.2.length : Int))) = true → (inIdx v86 g.2.2.2.length ∧ VC47 ret71v ((g.2.2.2.getD (v86).toNat ((0 : Int), ([] : LI))).1) (fun (ret93v : Bool) => ((ret93v = true → (inIdx ((g.2.2.2.getD (v86).toNat ((0 : Int), ([] : LI))).1) l192.length ∧ (InR ((((g.2.2.2.getD (v86).toNat ((0 : Int), ([] : LI))).2).length : Int) - (1 : Int)) ∧ Loop (σ := Int × LI × Bool × Int) (fun s X => VCo52_l3 g sv l16 grown2 v86 X2 ret93v s.1 s.2.1 s.2.2.1 s.2.2.2 X) (((((g.2.2.2.getD (v86).toNat ((0 : Int), ([] : LI))).2).length : Int) - (1 : Int)), l192, false, (l192.getD (((g.2.2.2.getD (v86).toNat ((0 : Int), ([] : LI))).1).toNat) (0 : Int)))))) ∧ (ret93v = false → (((ret93v && false) = true → VCo52_k11 v86 l192 X2 true) ∧ ((ret93v && false) = false → VCo52_k11 v86 l192 X2 grown2))))))) ∧ ((decide (v86 < (g.2.2.2.length : Int))) = false → VCo52_k4 X1 grown2 l192))
def VCo52_l1 (g : TG) (K : Int × Int × Int × LR × Int × LI × LI → Prop) (sv : Int) (l16 : LI) (ret71v : Int) (grown : Bool) (l19 : LI) (X1 : Bool × LI → Prop) : Prop :=
  ((grown = true → Loop (σ := Bool × Int × LI) (fun s X => VCo52_l2 g sv l16 ret71v X1 s.1 s.2.1 s.2.2 X) (false, (0 : Int), l19)) ∧ (grown = false → VCo52_k3 g K sv l16 l19))
def VCo52_k2 (g : TG) (K : Int × Int × Int × LR × Int × LI × LI → Prop) (sv : Int) (l16 : LI) : Prop :=
  VC42 g (fun (ret71v : Int) => (0 ≤ g.1 ∧ inIdx g.2.2.1 (List.replicate (g.2.1).toNat (0 : Int)).length ∧ Loop (σ := Bool × LI) (fun s X => VCo52_l1 g K sv l16 ret71v s.1 s.2 X) (true, ((List.replicate (g.2.1).toNat (0 : Int)).set ((g.2.2.1).toNat) (bShl .u32 (1 : Int) g.1)))))
def VCo52_k12 (X4 : Bool × LI → Prop) (grown2 : Bool) (l162 : LI) : Prop :=
  X4 (grown2, l162)
def VCo52_k14 (v28 : Int) (X5 : Bool × Int × LI → Prop) (grown3 : Bool) (l30502 : LI) : Prop :=
  (InR (v28 + (1 : Int)) ∧ X5 (grown3, (v28 + (1 : Int)), l30502))
def VCo52_k13 (g : TG) (grown2 : Bool) (v28 : Int) (l162 : LI) (X5 : Bool × Int × LI → Prop) (v4 : Int) (v5 : Bool) : Prop :=
  (inIdx ((g.2.2.2.getD (v28).toNat ((0 : Int), ([] : LI))).1) l162.length ∧ inIdx ((g.2.2.2.getD (v28).toNat ((0 : Int), ([] : LI))).1) l162.length ∧ (((!decide ((bOr .u32 (l162.getD (((g.2.2.2.getD (v28).toNat ((0 : Int), ([] : LI))).1).toNat) (0 : Int)) v4) = (l162.getD (((g.2.2.2.getD (v28).toNat ((0 : Int), ([] : LI))).1).toNat) (0 : Int)))) = true → (inIdx ((g.2.2.2.getD (v28).toNat ((0 : Int), ([] : LI))).1) l162.length ∧ (inIdx ((g.2.2.2.getD (v28).toNat ((0 : Int), ([] : LI))).1) l162.length ∧ VCo52_k14 v28 X5 true (l162.set (((g.2.2.2.getD (v28).toNat ((0 : Int), ([] : LI))).1).toNat) (bOr .u32 (l162.getD (((g.2.2.2.getD (v28).toNat ((0 : Int), ([] : LI))).1).toNat) (0 : Int)) v4))))) ∧ ((!decide ((bOr .u32 (l162.getD (((g.2.2.2.getD (v28).toNat ((0 : Int), ([] : LI))).1).toNat) (0 : Int)) v4) = (l162.getD (((g.2.2.2.getD (v28).toNat ((0 : Int), ([] : LI))).1).toNat) (0 : Int)))) = false → VCo52_k14 v28 X5 grown2 l162)))
def VCo52_k15 (g : TG) (grown2 : Bool) (v28 : Int) (l162 : LI) (X5 : Bool × Int × LI → Prop) (out : Int) : Prop :=
  VCo52_k13 g grown2 v28 l162 X5 out true
def VCo52_l6 (g : TG) (sv : Int) (grown2 : Bool) (v28 : Int) (l162 : LI) (X5 : Bool × Int × LI → Prop) (out : Int) (v11 : Int) (X6 : Int × Int → Prop) : Prop :=
  (((decide (v11 < (((g.2.2.2.getD (v28).toNat ((0 : Int), ([] : LI))).2).length : Int))) = true → (inIdx v11 ((g.2.2.2.getD (v28).toNat ((0 : Int), ([] : LI))).2).length ∧ (((decide ((((g.2.2.2.getD (v28).toNat ((0 : Int), ([] : LI))).2).getD (v11).toNat (0 : Int)) < g.1)) = true → (0 ≤ (((g.2.2.2.getD (v28).toNat ((0 : Int), ([] : LI))).2).getD (v11).toNat (0 : Int)) ∧ VCo52_k13 g grown2 v28 l162 X5 (bOr .u32 out (bShl .u32 (1 : Int) (((g.2.2.2.getD (v28).toNat ((0 : Int), ([] : LI))).2).getD (v11).toNat (0 : Int)))) false)) ∧ ((decide ((((g.2.2.2.getD (v28).toNat ((0 : Int), ([] : LI))).2).getD (v11).toNat (0 : Int)) < g.1)) = false → (InR ((((g.2.2.2.getD (v28).toNat ((0 : Int), ([] : LI))).2).getD (v11).toNat (0 : Int)) - g.1) ∧ inIdx ((((g.2.2.2.getD (v28).toNat ((0 : Int), ([] : LI))).2).getD (v11).toNat (0 : Int)) - g.1) l162.length ∧ (InR ((((g.2.2.2.getD (v28).toNat ((0 : Int), ([] : LI))).2).getD (v11).toNat (0 : Int)) - g.1) ∧ VC47 sv ((((g.2.2.2.getD (v28).toNat ((0 : Int), ([] : LI))).2).getD (v11).toNat (0 : Int)) - g.1) (fun (ret52v : Bool) => (((!ret52v) = true → VCo52_k13 g grown2 v28 l162 X5 (bOr .u32 out (l162.getD ((((((g.2.2.2.getD (v28).toNat ((0 : Int), ([] : LI))).2).getD (v11).toNat (0 : Int)) - g.1)).toNat) (0 : Int))) false) ∧ ((!ret52v) = false → (InR (v11 + (1 : Int)) ∧ X6 ((bOr .u32 out (l162.getD ((((((g.2.2.2.getD (v28).toNat ((0 : Int), ([] : LI))).2).getD (v11).toNat (0 : Int)) - g.1)).toNat) (0 : Int))), (v11 + (1 : Int))))))))))))) ∧ ((decide (v11 < (((g.2.2.2.getD (v28).toNat ((0 : Int), ([] : LI))).2).length : Int))) = false → VCo52_k15 g grown2 v28 l162 X5 out))
def VCo52_l5 (g : TG) (sv : Int) (X4 : Bool × LI → Prop) (grown2 : Bool) (v28 : Int) (l162 : LI) (X5 : Bool × Int × LI → Prop) : Prop :=
  (((decide (v28 < (g.2.2.2.length : Int))) = true → (inIdx v28 g.2.2.2.length ∧ Loop (σ := Int × Int) (fun s X => VCo52_l6 g sv grown2 v28 l162 X5 s.1 s.2 X) ((0 : Int), (0 : Int)))) ∧ ((decide (v28 < (g.2.2.2.length : Int))) = false → VCo52_k12 X4 grown2 l162))
def VCo52_l4 (g : TG) (K : Int × Int × Int × LR × Int × LI × LI → Prop) (sv : Int) (grown : Bool) (l16 : LI) (X4 : Bool × LI → Prop) : Prop :=
  ((grown = true → Loop (σ := Bool × Int × LI) (fun s X => VCo52_l5 g sv X4 s.1 s.2.1 s.2.2 X) (false, (0 : Int), l16)) ∧ (grown = false → VCo52_k2 g K sv l16))
def VCo52_k1 (g : TG) (K : Int × Int × Int × LR × Int × LI × LI → Prop) (sv : Int) : Prop :=
  Loop (σ := Bool × LI) (fun s X => VCo52_l4 g K sv s.1 s.2 X) (true, (List.replicate (g.2.1).toNat (0 : Int)))
def VCo52 (g : TG) (K : Int × Int × Int × LR × Int × LI × LI → Prop) : Prop :=
  ((room g.2.1 ∧ ((room g.2.1 ∧ VC41 g (fun (ret21v : Int) => VCo52_k1 g K ret21v)) ∧ VC41 g (fun (ret21v : Int) => (room g.2.1 ∧ VCo52_k1 g K ret21v)))) ∧ (room g.2.1 ∧ ((room g.2.1 ∧ VC41 g (fun (ret21v : Int) => VCo52_k1 g K ret21v)) ∧ VC41 g (fun (ret21v : Int) => (room g.2.1 ∧ VCo52_k1 g K ret21v)))) ∧ VC41 g (fun (ret21v : Int) => (room g.2.1 ∧ (room g.2.1 ∧ VCo52_k1 g K ret21v))))
set_option maxHeartbeats 4000000 in
theorem linko52 (g : TG) (K : Int × Int × Int × LR × Int × LI × LI → Prop) (h : VCo52 g K) : LCalls Try.prog 52 [50000, 50001, 50002] [] [] ([.agg [.pI g.1, .pI g.2.1, .pI g.2.2.1, .p (.sl tR) g.2.2.2]] ++ []) (fun av hp' => ∃ y : Int × Int × Int × LR × Int × LI × LI, av = .v (.c (.ptr 50000 0)) ∧ hp' = [hB 50000 [.pI y.1, .pI y.2.1, .pI y.2.2.1, .p (.sl tR) y.2.2.2.1, .own 50001, .own 50002, .pW y.2.2.2.2.1], hA 50001 28 (.int .u32) y.2.2.2.2.2.1, hA 50002 28 (.int .u32) y.2.2.2.2.2.2] ∧ K y) := by
 refine lcalls_of_aw [50000, 50001, 50002] [] [.t 2] Try.func52 rfl rfl (by kernel_rfl) (by kernel_rfl) (by kernel_rfl) ?_
 refine aw_conv [] (st' := (⟨101, [sA 0 [.pI g.1, .pI g.2.1, .pI g.2.2.1, .p (.sl tR) g.2.2.2]], []⟩ : St)) (by kernel_rfl) ?_
 unfold VCo52 at h
 refine srn 2 ⟨101, [sp 1 1], [e29_1 g]⟩ (by kernel_rfl) rfl ?_
 refine aw_seq ?_
 refine withJoin (σ := Int) (fun s => (⟨101, [sp 1 1, sp 3 23], [e29_1 g, e29_9 g, e29_6 g, hB 23 [.pI g.1, .pI g.2.1, .pI g.2.2.1, .p (.sl tR) g.2.2.2, .own 16, .own 19, .pW s]]⟩ : St)) (fun s => VCo52_k1 g K s) (fun sv h => ?_) (fun rest15 => ?_)
 ·have h : VCo52_k1 g K sv := h
  unfold VCo52_k1 at h
  refine thenQ_n ?_
  refine aw_seq ?_
  refine srn 1 ⟨101, [sp 1 1, sp 3 23, sB 4 true], [e29_1 g, e29_9 g, e29_6 g, e29_2 g sv]⟩ (by kernel_rfl) rfl ?_
  refine withJoin (σ := LI) (fun s => (⟨101, [sp 1 1, sp 3 23], [e29_1 g, hA 16 28 (.int .u32) s, e29_6 g, e29_2 g sv]⟩ : St)) (fun s => VCo52_k2 g K sv s) (fun l16 h => ?_) (fun rest10 => ?_)
  ·have h : VCo52_k2 g K sv l16 := h
   unfold VCo52_k2 at h
   refine thenQ_n ?_
   refine sr ?_
   refine rqT 1 ⟨101, [sp 1 1, sp 3 23, sA 70 [.pI g.1, .pI g.2.1, .pI g.2.2.1, .p (.sl tR) g.2.2.2]], [e29_1 g, e29_26 l16, e29_6 g, e29_2 g sv]⟩ (by kernel_rfl) ?_
   refine lcq (d := 71) [.d tG] (fun ret71v => (⟨101, [sp 1 1, sp 3 23, s1 71 (.pW ret71v)], [e29_1 g, e29_26 l16, e29_6 g, e29_2 g sv]⟩ : St)) (by kernel_rfl) Try.call42 (fun _ => by kernel_rfl) (link42 g _ h) (fun ret71v h => ?_)
   refine rqT 1 ⟨101, [sp 1 1, sp 3 23, e29_32 ret71v], [e29_1 g, e29_26 l16, e29_6 g, e29_2 g sv]⟩ (by kernel_rfl) ?_
   refine nn ?_
   refine aw_seq ?_
   refine awd_begin [19] (by kernel_rfl) ?_
   obtain ⟨o1, o2, h⟩ := h
   refine drq (by kernel_rfl) [0, 1, 2, 3, 4, 5, 6, 7, 8, 9] (ob := (Ts 8 (0 ≤ g.1 ∧ inIdx g.2.2.1 (List.replicate (g.2.1).toNat (0 : Int)).length ∧ True))) (done' := [9, 8, 7, 6, 5, 4, 3, 2, 1, 0]) (st' := (⟨101, [sp 1 1, sp 3 23, e29_32 ret71v, s1 80 (.pW (bShl .u32 (1 : Int) g.1)), s1 81 (.el 19 ((g.2.2.1).toNat) 1)], [e29_1 g, e29_26 l16, e29_6 g, e29_2 g sv]⟩ : St)) (by kernel_rfl) (tsI 8 (⟨o1, ⟨o2, trivial⟩⟩)) ?_
   refine awd_one (i := 10) (by kernel_rfl) ?_
   refine dsq (ob := True) (st' := (⟨101, [sp 1 1, sp 3 23, e29_32 ret71v], [e29_1 g, e29_26 l16, e29_51 g, e29_2 g sv]⟩ : St)) rfl (by kernel_rfl) trivial ?_
   refine awd_done (by kernel_rfl) ?_
   refine thenQ_n ?_
   refine aw_seq ?_
   refine srn 1 ⟨101, [sp 1 1, sp 3 23, e29_32 ret71v, sB 10 true], [e29_1 g, e29_26 l16, e29_51 g, e29_2 g sv]⟩ (by kernel_rfl) rfl ?_
   refine withJoin (σ := LI) (fun s => (⟨101, [sp 3 23], [e29_26 l16, hA 19 28 (.int .u32) s, e29_2 g sv]⟩ : St)) (fun s => VCo52_k3 g K sv l16 s) (fun l19 h => ?_) (fun rest1 => ?_)
   ·have h : VCo52_k3 g K sv l16 l19 := h
    unfold VCo52_k3 at h
    refine thenQ_n ?_
    refine srn 2 ⟨101, [sp 2 23], [e29_26 l16, hA 19 28 (.int .u32) l19, e29_2 g sv]⟩ (by kernel_rfl) rfl ?_
    refine aw_conv [.prune [2] [23, 16, 19], .ren 23 50000, .ren 16 50001, .ren 19 50002, .prune [2] [50000, 50001, 50002]] (st' := (⟨101, [sp 2 50000], [hB 50000 [.pI g.1, .pI g.2.1, .pI g.2.2.1, .p (.sl tR) g.2.2.2, .own 50001, .own 50002, .pW sv], hA 50001 28 (.int .u32) l16, hA 50002 28 (.int .u32) l19]⟩ : St)) (by kernel_rfl) ?_
    refine aw_ret ?_
    exact lret_r (σ := Int × Int × Int × LR × Int × LI × LI) (A := fun y => .v (.c (.ptr 50000 0))) (H := fun y => [hB 50000 [.pI y.1, .pI y.2.1, .pI y.2.2.1, .p (.sl tR) y.2.2.2.1, .own 50001, .own 50002, .pW y.2.2.2.2.1], hA 50001 28 (.int .u32) y.2.2.2.2.2.1, hA 50002 28 (.int .u32) y.2.2.2.2.2.2]) (ob := True) (g.1, g.2.1, g.2.2.1, g.2.2.2, sv, l16, l19) (by kernel_rfl) trivial rfl (by kernel_rfl) (by kernel_rfl) (by kernel_rfl) h
   ·refine aw_block ?_
    refine aw_loop (σ := Bool × LI) (fun s => (⟨101, [sp 1 1, sp 3 23, e29_32 ret71v, sB 10 s.1], [e29_1 g, e29_26 l16, hA 19 28 (.int .u32) s.2, e29_2 g sv]⟩ : St)) (fun s X => VCo52_l1 g K sv l16 ret71v s.1 s.2 X) (s0 := (true, ((List.replicate (g.2.1).toNat (0 : Int)).set ((g.2.2.1).toNat) (bShl .u32 (1 : Int) g.1)))) (fun s X1 h => ?_) h
    obtain ⟨grown, l19⟩ := s
    have h : VCo52_l1 g K sv l16 ret71v grown l19 X1 := h
    unfold VCo52_l1 at h
    refine aw_seq ?_
    refine srn 1 ⟨101, [sp 1 1, sp 3 23, e29_32 ret71v, sB 82 grown], [e29_1 g, e29_26 l16, hA 19 28 (.int .u32) l19, e29_2 g sv]⟩ (by kernel_rfl) rfl ?_
    refine aw_cond (b := grown) (by kernel_rfl) (fun hb => ?_) (fun hb => ?_)
    ·have h := h.1 hb
     refine aw_skip ?_
     refine thenQ_n ?_
     refine aw_block ?_
     refine sr ?_
     refine rqT 1 ⟨101, [sp 1 1, sp 3 23, e29_32 ret71v, sB 10 false], [e29_1 g, e29_26 l16, hA 19 28 (.int .u32) l19, e29_2 g sv]⟩ (by kernel_rfl) ?_
     refine nsr ?_
     refine rqT 4 ⟨101, [sp 1 1, sp 3 23, e29_32 ret71v, sB 10 false, e29_13 g, e29_28 g, sI 86 (0 : Int)], [e29_1 g, e29_26 l16, hA 19 28 (.int .u32) l19, e29_2 g sv]⟩ (by kernel_rfl) ?_
     refine nn ?_
     refine withJoin (σ := Bool × LI) (fun s => (⟨101, [sp 1 1, sp 3 23, e29_32 ret71v, sB 10 s.1], [e29_1 g, e29_26 l16, hA 19 28 (.int .u32) s.2, e29_2 g sv]⟩ : St)) (fun s => VCo52_k4 X1 s.1 s.2) (fun s h => ?_) (fun rest2 => ?_)
     ·obtain ⟨grown2, l192⟩ := s
      have h : VCo52_k4 X1 grown2 l192 := h
      unfold VCo52_k4 at h
      refine blockQ_n ?_
      exact thenQ_n ⟨(grown2, l192), rfl, h⟩
     ·refine aw_block ?_
      refine aw_loop (σ := Bool × Int × LI) (fun s => (⟨101, [sp 1 1, sp 3 23, e29_32 ret71v, sB 10 s.1, e29_13 g, e29_28 g, sI 86 s.2.1], [e29_1 g, e29_26 l16, hA 19 28 (.int .u32) s.2.2, e29_2 g sv]⟩ : St)) (fun s X => VCo52_l2 g sv l16 ret71v X1 s.1 s.2.1 s.2.2 X) (s0 := (false, (0 : Int), l19)) (fun s X2 h => ?_) h
      obtain ⟨grown2, v86, l192⟩ := s
      have h : VCo52_l2 g sv l16 ret71v X1 grown2 v86 l192 X2 := h
      unfold VCo52_l2 at h
      refine srn 1 ⟨101, [sp 1 1, sp 3 23, e29_32 ret71v, sB 10 grown2, e29_13 g, e29_28 g, sI 86 v86, sB 87 (decide (v86 < (g.2.2.2.length : Int)))], [e29_1 g, e29_26 l16, e29_63 l192, e29_2 g sv]⟩ (by kernel_rfl) rfl ?_
      refine aw_seq ?_
      refine aw_cond (b := (decide (v86 < (g.2.2.2.length : Int)))) (by kernel_rfl) (fun hb => ?_) (fun hb => ?_)
      ·have h := h.1 hb
       refine aw_skip ?_
       refine thenQ_n ?_
       refine aw_seq ?_
       refine withJoin (σ := Bool × LI) (fun s => (⟨101, [e29_67, e29_68, e29_32 ret71v, sB 10 s.1, e29_13 g, e29_28 g, sI 86 v86], [e29_4 g, e29_10 l16, hA 30002 28 (.int .u32) s.2, e29_0 g sv]⟩ : St)) (fun s => VCo52_k5 v86 X2 s.1 s.2) (fun s h => ?_) (fun rest3 => ?_)
       ·obtain ⟨grown3, l30002⟩ := s
        have h : VCo52_k5 v86 X2 grown3 l30002 := h
        unfold VCo52_k5 at h
        refine thenQ_n ?_
        refine aw_region ?_
        obtain ⟨o1, h⟩ := h
        refine rq 2 (ob := (InR (v86 + (1 : Int)) ∧ Ts 1 True)) (st' := (⟨101, [e29_67, e29_68, e29_32 ret71v, sB 10 grown3, e29_13 g, e29_28 g, sI 86 (v86 + (1 : Int))], [e29_4 g, e29_10 l16, e29_30 l30002, e29_0 g sv]⟩ : St)) (by kernel_rfl) (⟨o1, tsI 1 trivial⟩) ?_
        refine awl_conv [.ren 30000 50000, .ren 30003 50003, .ren 30001 50001, .ren 30002 50002, .ren 50000 1, .ren 50003 23, .ren 50001 16, .ren 50002 19] (st' := (⟨101, [sp 1 1, sp 3 23, e29_32 ret71v, sB 10 grown3, e29_13 g, e29_28 g, sI 86 (v86 + (1 : Int))], [e29_1 g, e29_26 l16, hA 19 28 (.int .u32) l30002, e29_2 g sv]⟩ : St)) (by kernel_rfl) ?_
        refine awl_nil ?_
        exact thenQ_n ⟨(grown3, (v86 + (1 : Int)), l30002), rfl, h⟩
       ·refine aw_block ?_
        refine sr ?_
        obtain ⟨o1, h⟩ := h
        refine rq 4 (ob := (inIdx v86 g.2.2.2.length ∧ Ts 3 True)) (st' := (⟨101, [sp 1 1, sp 3 23, e29_32 ret71v, sB 10 grown2, sp 12 12, e29_13 g, e29_28 g, sI 86 v86], [e29_1 g, e29_36 g v86, e29_26 l16, e29_63 l192, e29_2 g sv]⟩ : St)) (by kernel_rfl) (⟨o1, tsI 3 trivial⟩) ?_
        refine nsr ?_
        refine rqT 3 ⟨101, [sp 1 1, sp 3 23, e29_32 ret71v, sB 10 grown2, sp 12 12, e29_13 g, e29_28 g, sI 86 v86, s1 90 (.pW ret71v), sI 92 ((g.2.2.2.getD (v86).toNat ((0 : Int), ([] : LI))).1)], [e29_1 g, e29_36 g v86, e29_26 l16, e29_63 l192, e29_2 g sv]⟩ (by kernel_rfl) ?_
        refine lcq (d := 93) [.d (.int .u32), .d tI] (fun ret93v => (⟨101, [sp 1 1, sp 3 23, e29_32 ret71v, sB 10 grown2, sp 12 12, e29_13 g, e29_28 g, sI 86 v86, sB 93 ret93v], [e29_1 g, e29_36 g v86, e29_26 l16, e29_63 l192, e29_2 g sv]⟩ : St)) (by kernel_rfl) Try.call47 (fun _ => by kernel_rfl) (link47 ret71v ((g.2.2.2.getD (v86).toNat ((0 : Int), ([] : LI))).1) _ h) (fun ret93v h => ?_)
        refine rq 3 (ob := (Ts 1 (Ti 2 (ret93v = true → True) True))) (st' := (⟨101, [sp 1 1, sp 3 23, e29_32 ret71v, sB 10 grown2, e29_13 g, e29_28 g, sI 86 v86, sB 94 ret93v, (95, [(94, true)], .v (.c (.ptr 23 0))), e29_41 g v86], [e29_1 g, e29_26 l16, e29_63 l192, e29_2 g sv]⟩ : St)) (by kernel_rfl) (tsI 1 (tiI 2 (fun _ => trivial) trivial)) ?_
        refine awl_conv [.ren 1 30000, .ren 16 30001, .ren 19 30002, .ren 23 30003] (st' := (⟨101, [e29_67, e29_68, e29_32 ret71v, sB 10 grown2, e29_13 g, e29_28 g, sI 86 v86, sB 94 ret93v, (95, [(94, true)], .v (.c (.ptr 30003 0))), e29_41 g v86], [e29_4 g, e29_10 l16, e29_29 l192, e29_0 g sv]⟩ : St)) (by kernel_rfl) ?_
        refine awl_inlg [.t 4] [30000, 30001, 30002, 30003] [(94, true)] [.c (.ptr 30003 0), .agg [.pI ((g.2.2.2.getD (v86).toNat ((0 : Int), ([] : LI))).1), .pS ((g.2.2.2.getD (v86).toNat ((0 : Int), ([] : LI))).2)]] [] (.v (.c (.pB false))) (by kernel_rfl) rfl (by kernel_rfl) rfl (by kernel_rfl) Try.call83 (by kernel_rfl) (by kernel_rfl) Try.func83 rfl rfl (by kernel_rfl) (fun hb => ?_) (fun hb => ?_)
        ·have h := h.1 hb
         refine aw_conv [] (st' := (⟨89, [sp 0 30003, sA 1 [.pI ((g.2.2.2.getD (v86).toNat ((0 : Int), ([] : LI))).1), .pS ((g.2.2.2.getD (v86).toNat ((0 : Int), ([] : LI))).2)], e29_70, e29_71, s1 98 (.pW ret71v), sB 99 grown2, e29_24 g, e29_39 g, sI 175 v86, sB 183 ret93v, sp 184 30003, sA 185 [.pI ((g.2.2.2.getD (v86).toNat ((0 : Int), ([] : LI))).1), .pS ((g.2.2.2.getD (v86).toNat ((0 : Int), ([] : LI))).2)]], [e29_4 g, e29_10 l16, e29_29 l192, e29_0 g sv]⟩ : St)) (by kernel_rfl) ?_
         refine sr ?_
         refine rqT 3 ⟨89, [sp 2 2, sp 3 3, e29_70, e29_71, s1 98 (.pW ret71v), sB 99 grown2, e29_24 g, e29_39 g, sI 175 v86, sB 183 ret93v], [e29_76, e29_27 g v86, e29_4 g, e29_10 l16, e29_29 l192, e29_0 g sv]⟩ (by kernel_rfl) ?_
         refine nsr ?_
         refine rqT 2 ⟨89, [sp 2 2, sp 3 3, sp 5 5, e29_70, e29_71, s1 98 (.pW ret71v), sB 99 grown2, e29_24 g, e29_39 g, sI 175 v86, sB 183 ret93v], [e29_76, e29_27 g v86, hB 5 [.pB false], e29_4 g, e29_10 l16, e29_29 l192, e29_0 g sv]⟩ (by kernel_rfl) ?_
         refine nn ?_
         refine aw_seq ?_
         refine awd_begin [6] (by kernel_rfl) ?_
         obtain ⟨o1, h⟩ := h
         refine drq (by kernel_rfl) [0, 1, 2, 3, 4, 5, 6, 7] (ob := (Ts 6 (inIdx ((g.2.2.2.getD (v86).toNat ((0 : Int), ([] : LI))).1) l192.length ∧ Ts 1 True))) (done' := [7, 6, 5, 4, 3, 2, 1, 0]) (st' := (⟨89, [sp 2 2, sp 3 3, sp 5 5, s1 17 (.pW (l192.getD (((g.2.2.2.getD (v86).toNat ((0 : Int), ([] : LI))).1).toNat) (0 : Int))), e29_70, e29_71, s1 98 (.pW ret71v), sB 99 grown2, e29_24 g, e29_39 g, sI 175 v86, sB 183 ret93v], [e29_76, e29_27 g v86, hB 5 [.pB false], e29_4 g, e29_10 l16, e29_29 l192, e29_0 g sv]⟩ : St)) (by kernel_rfl) (tsI 6 ⟨o1, tsI 1 trivial⟩) ?_
         refine awd_one (i := 8) (by kernel_rfl) ?_
         refine dsq (ob := True) (st' := (⟨89, [sp 2 2, sp 3 3, sp 5 5, sp 6 6, s1 17 (.pW (l192.getD (((g.2.2.2.getD (v86).toNat ((0 : Int), ([] : LI))).1).toNat) (0 : Int))), e29_70, e29_71, s1 98 (.pW ret71v), sB 99 grown2, e29_24 g, e29_39 g, sI 175 v86, sB 183 ret93v], [e29_76, e29_27 g v86, hB 5 [.pB false], hB 6 [.pW (0 : Int)], e29_4 g, e29_10 l16, e29_29 l192, e29_0 g sv]⟩ : St)) rfl (by kernel_rfl) trivial ?_
         refine awd_one (i := 9) (by kernel_rfl) ?_
         refine dsq (ob := True) (st' := (⟨89, [sp 2 2, sp 3 3, sp 5 5, sp 6 6, e29_70, e29_71, s1 98 (.pW ret71v), sB 99 grown2, e29_24 g, e29_39 g, sI 175 v86, sB 183 ret93v], [e29_76, e29_27 g v86, hB 5 [.pB false], hB 6 [.pW (l192.getD (((g.2.2.2.getD (v86).toNat ((0 : Int), ([] : LI))).1).toNat) (0 : Int))], e29_4 g, e29_10 l16, e29_29 l192, e29_0 g sv]⟩ : St)) rfl (by kernel_rfl) trivial ?_
         refine awd_done (by kernel_rfl) ?_
         refine thenQ_n ?_
         refine aw_seq ?_
         refine sr ?_
         refine rqT 2 ⟨89, [sp 2 2, sp 5 5, sp 6 6, s1 19 (.pS ((g.2.2.2.getD (v86).toNat ((0 : Int), ([] : LI))).2)), e29_70, e29_71, s1 98 (.pW ret71v), sB 99 grown2, e29_24 g, e29_39 g, sI 175 v86, sB 183 ret93v], [e29_76, hB 5 [.pB false], hB 6 [.pW (l192.getD (((g.2.2.2.getD (v86).toNat ((0 : Int), ([] : LI))).1).toNat) (0 : Int))], e29_4 g, e29_10 l16, e29_29 l192, e29_0 g sv]⟩ (by kernel_rfl) ?_
         refine awl_conv [.ren 2 30200, .ren 5 30201, .ren 6 30202] (st' := (⟨89, [e29_60, e29_72, e29_57, s1 19 (.pS ((g.2.2.2.getD (v86).toNat ((0 : Int), ([] : LI))).2)), e29_70, e29_71, s1 98 (.pW ret71v), sB 99 grown2, e29_24 g, e29_39 g, sI 175 v86, sB 183 ret93v], [e29_16, e29_61, e29_18 l192 g v86, e29_4 g, e29_10 l16, e29_29 l192, e29_0 g sv]⟩ : St)) (by kernel_rfl) ?_
         refine awl_inlr [.t 2] [30200, 30201, 30202, 30000, 30001, 30002, 30003] [.c (.pS ((g.2.2.2.getD (v86).toNat ((0 : Int), ([] : LI))).2))] [] rfl rfl (by kernel_rfl) rfl (by kernel_rfl) Try.call58 (by kernel_rfl) (by kernel_rfl) Try.func58 rfl rfl (by kernel_rfl) ?_
         refine aw_conv [] (st' := (⟨4, [s1 0 (.pS ((g.2.2.2.getD (v86).toNat ((0 : Int), ([] : LI))).2)), sp 6 30200, sp 9 30201, sp 10 30202, s1 23 (.pS ((g.2.2.2.getD (v86).toNat ((0 : Int), ([] : LI))).2)), sp 94 30000, sp 96 30003, s1 102 (.pW ret71v), sB 103 grown2, e29_44 g, e29_75 g, sI 179 v86, sB 187 ret93v], [e29_16, e29_61, e29_18 l192 g v86, e29_4 g, e29_10 l16, e29_29 l192, e29_0 g sv]⟩ : St)) (by kernel_rfl) ?_
         refine sr ?_
         refine rqT 2 ⟨4, [sp 1 1, sp 6 30200, sp 9 30201, sp 10 30202, sp 94 30000, sp 96 30003, s1 102 (.pW ret71v), sB 103 grown2, e29_44 g, e29_75 g, sI 179 v86, sB 187 ret93v], [hB 1 [.pS ((g.2.2.2.getD (v86).toNat ((0 : Int), ([] : LI))).2)], e29_4 g, e29_10 l16, e29_29 l192, e29_0 g sv, e29_16, e29_61, e29_18 l192 g v86]⟩ (by kernel_rfl) ?_
         refine nsr ?_
         refine awl_conv [.freezeB 1 (.sl tI)] (st' := (⟨4, [e29_17 g v86, sp 6 30200, sp 9 30201, sp 10 30202, sp 94 30000, sp 96 30003, s1 102 (.pW ret71v), sB 103 grown2, e29_44 g, e29_75 g, sI 179 v86, sB 187 ret93v], [e29_4 g, e29_10 l16, e29_29 l192, e29_0 g sv, e29_16, e29_61, e29_18 l192 g v86]⟩ : St)) (by kernel_rfl) ?_
         refine rqT 2 ⟨4, [s1 2 (.fn 87 [(⟨(.sl tI), (g.2.2.2.getD (v86).toNat ((0 : Int), ([] : LI))).2⟩ : Dat)]), sp 6 30200, sp 9 30201, sp 10 30202, sp 94 30000, sp 96 30003, s1 102 (.pW ret71v), sB 103 grown2, e29_44 g, e29_75 g, sI 179 v86, sB 187 ret93v], [e29_4 g, e29_10 l16, e29_29 l192, e29_0 g sv, e29_16, e29_61, e29_18 l192 g v86]⟩ (by kernel_rfl) ?_
         refine nn ?_
         refine aw_ret ?_
         refine inlR_r (ob := True) (.v (.c (.fn 87 [(⟨(.sl tI), (g.2.2.2.getD (v86).toNat ((0 : Int), ([] : LI))).2⟩ : Dat)]))) (by kernel_rfl) trivial rfl ?_
         refine lpr (st' := (⟨89, [e29_60, e29_72, e29_57, s1 20 (.fn 87 [(⟨(.sl tI), (g.2.2.2.getD (v86).toNat ((0 : Int), ([] : LI))).2⟩ : Dat)]), e29_70, e29_71, s1 98 (.pW ret71v), sB 99 grown2, e29_24 g, e29_39 g, sI 175 v86, sB 183 ret93v], [e29_4 g, e29_10 l16, e29_29 l192, e29_0 g sv, e29_16, e29_61, e29_18 l192 g v86]⟩ : St)) (by kernel_rfl) ?_
         refine nn ?_
         refine aw_block ?_
         refine aw_cq ?_
         refine aw_rangeFunc 37200 90200 [2, 5, 6] [37200, 30000, 30001, 30002, 30003, 30200, 30201, 30202] [.c (.ad (.sl tI) ((g.2.2.2.getD (v86).toNat ((0 : Int), ([] : LI))).2))] (by kernel_rfl) Try.call87 Try.func87 rfl rfl (by kernel_rfl) (fun _ => by kernel_rfl) (fun lr1 hps has hbd hnn => ?_)
         have hY1 : ∀ (a21 : Int) (a22 : Int) (c1 : LI) (c7 : Bool) (c8 : Int) (Kt : LI × Bool × Int → Prop) (Kf : (Int × LI × Bool × Int) → Prop) (h : VCo52_y1 g sv l16 a21 a22 c1 c7 c8 Kt Kf), LYCalls Try.prog 37200 e29_n0 [37200, 30003, 30200, 30201, 30202] [(37200, [], .lp lr1 (0 : Int) (VCo52_s1 30200 30201 30202)), e29_10 l16, e29_40 c1, e29_0 g sv, e29_16, e29_52 c7, e29_38 c8] [.c (.pI a21), .c (.pI a22)] (fun av hp' => (∃ y : LI × Bool × Int, av = .v (.c (.p .bool true)) ∧ hp' = [(37200, [], .lp lr1 (0 : Int) (VCo52_s1 30200 30201 30202)), e29_10 l16, hA 30002 28 (.int .u32) y.1, e29_0 g sv, e29_16, hB 30201 [.pB y.2.1], hB 30202 [.pW y.2.2]] ∧ Kt y) ∨ (∃ y : Int × LI × Bool × Int, av = .v (.c (.p .bool false)) ∧ hp' = [(37200, [], .lp lr1 y.1 (VCo52_s1 30200 30201 30202)), e29_10 l16, hA 30002 28 (.int .u32) y.2.1, e29_0 g sv, e29_16, hB 30201 [.pB y.2.2.1], hB 30202 [.pW y.2.2.2]] ∧ Kf y)) := by
          intro a21 a22 c1 c7 c8 Kt Kf h
          refine lyield_of_aw (sl := VCo52_s1 30200 30201 30202) (hp1 := [e29_10 l16, e29_40 c1, e29_0 g sv, e29_16, e29_52 c7, e29_38 c8]) e29_n0 [37200, 30003, 30200, 30201, 30202] [30001, 30002, 30003, 30200, 30201, 30202] [30003, 30200, 30201, 30202] hps has hbd hnn (by kernel_rfl) (by kernel_rfl) (by decide) (by kernel_rfl) (by kernel_rfl) (by kernel_rfl) (by kernel_rfl) ?_
          refine aw_conv [] (st' := (⟨89, [sI 21 a21, sI 22 a22, e29_60, e29_72, e29_57, e29_45, e29_46, e29_47, e29_48], [e29_10 l16, e29_40 c1, e29_0 g sv, e29_16, e29_52 c7, e29_38 c8]⟩ : St)) (by kernel_rfl) ?_
          unfold VCo52_y1 at h
          refine aw_region ?_
          refine rqT 1 ⟨89, [e29_60, e29_72, e29_57, sI 8 a22, e29_45, e29_46, e29_47, e29_48], [e29_10 l16, e29_40 c1, e29_0 g sv, e29_16, e29_52 c7, e29_38 c8]⟩ (by kernel_rfl) ?_
          refine awl_nil ?_
          refine asgQ_n ?_
          refine withJoin (σ := LI × Bool × Int) (fun s => (⟨89, [e29_45, e29_46, e29_47, e29_48], [e29_10 l16, hA 30002 28 (.int .u32) s.1, e29_0 g sv, e29_16, hB 30201 [.pB s.2.1], hB 30202 [.pW s.2.2]]⟩ : St)) (fun s => VCo52_k6 Kt s.1 s.2.1 s.2.2) (fun s h => ?_) (fun rest4 => ?_)
          ·obtain ⟨l30002, l30201, sv2⟩ := s
           have h : VCo52_k6 Kt l30002 l30201 sv2 := h
           unfold VCo52_k6 at h
           exact yret_n (l30002, l30201, sv2) (by kernel_rfl) (by kernel_rfl) h
          ·refine aw_block ?_
           refine aw_seq ?_
           refine srn 7 ⟨89, [e29_60, e29_72, e29_57, sI 8 a22, sB 29 (decide (a22 < g.1)), e29_45, e29_46, e29_47, e29_48], [e29_10 l16, e29_40 c1, e29_0 g sv, e29_16, e29_52 c7, e29_38 c8]⟩ (by kernel_rfl) rfl ?_
           refine aw_cond (b := (decide (a22 < g.1))) (by kernel_rfl) (fun hb => ?_) (fun hb => ?_)
           ·have h := h.1 hb
            refine sr ?_
            obtain ⟨o1, h⟩ := h
            refine rq 3 (ob := (Ts 1 (0 ≤ a22 ∧ Ts 1 True))) (st' := (⟨89, [e29_45, e29_46, e29_47, e29_48], [e29_10 l16, e29_40 c1, e29_0 g sv, e29_16, e29_52 c7, hB 30202 [.pW (bShl .u32 (1 : Int) a22)]]⟩ : St)) (by kernel_rfl) (tsI 1 ⟨o1, tsI 1 trivial⟩) ?_
            refine nn ?_
            refine aw_exit ?_
            refine thenQ_x ?_
            refine blockQ_hit ?_
            exact rest4 (c1, c7, (bShl .u32 (1 : Int) a22)) h
           ·have h := h.2 hb
            refine aw_skip ?_
            refine thenQ_n ?_
            refine sr ?_
            obtain ⟨o1, h⟩ := h
            refine rq 8 (ob := (Ts 6 (InR (a22 - g.1) ∧ Ts 1 True))) (st' := (⟨89, [e29_60, e29_72, e29_57, sI 9 (a22 - g.1), e29_45, e29_46, e29_47, e29_48], [e29_10 l16, e29_40 c1, e29_0 g sv, e29_16, e29_52 c7, e29_38 c8]⟩ : St)) (by kernel_rfl) (tsI 6 ⟨o1, tsI 1 trivial⟩) ?_
            refine nn ?_
            refine aw_seq ?_
            refine aw_seq ?_
            refine awd_begin [] (by kernel_rfl) ?_
            obtain ⟨o1, o2, h⟩ := h
            refine drq (by kernel_rfl) [0, 1, 2, 3, 4, 5, 6, 7, 8, 9, 10, 11, 12, 13, 14, 15, 16] (ob := (Ts 5 (inIdx (a22 - g.1) c1.length ∧ Ts 8 (inIdx (a22 - g.1) c1.length ∧ Ts 2 True)))) (done' := [16, 15, 14, 13, 12, 11, 10, 9, 8, 7, 6, 5, 4, 3, 2, 1, 0]) (st' := (⟨89, [e29_60, e29_72, e29_57, sI 9 (a22 - g.1), sB 55 (!decide ((bOr .u32 (c1.getD (((a22 - g.1)).toNat) (0 : Int)) c8) = (c1.getD (((a22 - g.1)).toNat) (0 : Int)))), e29_45, e29_46, e29_47, e29_48], [e29_10 l16, e29_40 c1, e29_0 g sv, e29_16, e29_52 c7, e29_38 c8]⟩ : St)) (by kernel_rfl) (tsI 5 (⟨o1, tsI 8 ⟨o2, tsI 2 trivial⟩⟩)) ?_
            refine awd_done (by kernel_rfl) ?_
            refine thenQ_n ?_
            refine withJoin (σ := LI × Bool) (fun s => (⟨89, [e29_60, e29_57, sI 9 (a22 - g.1), e29_45, e29_46, e29_47, e29_48], [e29_10 l16, hA 30002 28 (.int .u32) s.1, e29_0 g sv, e29_16, hB 30201 [.pB s.2], e29_38 c8]⟩ : St)) (fun s => VCo52_k7 g sv l16 a22 c8 Kt s.1 s.2) (fun s h => ?_) (fun rest6 => ?_)
            ·obtain ⟨l30002, l30201⟩ := s
             have h : VCo52_k7 g sv l16 a22 c8 Kt l30002 l30201 := h
             unfold VCo52_k7 at h
             refine thenQ_n ?_
             refine sr ?_
             refine rqT 5 ⟨89, [e29_60, e29_57, sI 9 (a22 - g.1), s1 69 (.pW sv), sI 70 (a22 - g.1), e29_45, e29_46, e29_47, e29_48], [e29_10 l16, e29_30 l30002, e29_0 g sv, e29_16, hB 30201 [.pB l30201], e29_38 c8]⟩ (by kernel_rfl) ?_
             refine lcq (d := 71) [.d (.int .u32), .d tI] (fun ret71v2 => (⟨89, [e29_60, e29_57, sI 9 (a22 - g.1), sB 71 ret71v2, e29_45, e29_46, e29_47, e29_48], [e29_10 l16, e29_30 l30002, e29_0 g sv, e29_16, hB 30201 [.pB l30201], e29_38 c8]⟩ : St)) (by kernel_rfl) Try.call47 (fun _ => by kernel_rfl) (link47 sv (a22 - g.1) _ h) (fun ret71v2 h => ?_)
             refine nn ?_
             refine withJoin (σ := Int) (fun s => (⟨89, [e29_45, e29_46, e29_47, e29_48], [e29_10 l16, e29_30 l30002, e29_0 g sv, e29_16, hB 30201 [.pB l30201], hB 30202 [.pW s]]⟩ : St)) (fun s => VCo52_k8 Kt l30002 l30201 s) (fun sv2 h => ?_) (fun rest5 => ?_)
             ·have h : VCo52_k8 Kt l30002 l30201 sv2 := h
              unfold VCo52_k8 at h
              refine blockQ_n ?_
              exact rest4 (l30002, l30201, sv2) h
             ·refine aw_cond (b := ret71v2) (by kernel_rfl) (fun hb => ?_) (fun hb => ?_)
              ·have h := h.1 hb
               refine awd_begin [30202] (by kernel_rfl) ?_
               obtain ⟨o1, h⟩ := h
               refine drq (by kernel_rfl) [1, 2, 3, 4, 5, 6, 7] (ob := (Ts 5 (inIdx (a22 - g.1) l16.length ∧ Ts 1 True))) (done' := [7, 6, 5, 4, 3, 2, 1]) (st' := (⟨89, [e29_57, s1 79 (.pW (l16.getD (((a22 - g.1)).toNat) (0 : Int))), e29_45, e29_46, e29_47, e29_48], [e29_10 l16, e29_30 l30002, e29_0 g sv, e29_16, hB 30201 [.pB l30201], e29_38 c8]⟩ : St)) (by kernel_rfl) (tsI 5 ⟨o1, tsI 1 trivial⟩) ?_
               refine awd_one (i := 0) (by kernel_rfl) ?_
               refine dsq (ob := True) (st' := (⟨89, [e29_57, s1 72 (.pW c8), s1 79 (.pW (l16.getD (((a22 - g.1)).toNat) (0 : Int))), e29_45, e29_46, e29_47, e29_48], [e29_10 l16, e29_30 l30002, e29_0 g sv, e29_16, hB 30201 [.pB l30201], e29_38 c8]⟩ : St)) rfl (by kernel_rfl) trivial ?_
               refine drq (by kernel_rfl) [8] (ob := (Ts 1 True)) (done' := [8, 0, 7, 6, 5, 4, 3, 2, 1]) (st' := (⟨89, [e29_57, s1 80 (.pW (bOr .u32 c8 (l16.getD (((a22 - g.1)).toNat) (0 : Int)))), e29_45, e29_46, e29_47, e29_48], [e29_10 l16, e29_30 l30002, e29_0 g sv, e29_16, hB 30201 [.pB l30201], e29_38 c8]⟩ : St)) (by kernel_rfl) (tsI 1 trivial) ?_
               refine awd_one (i := 9) (by kernel_rfl) ?_
               refine dsq (ob := True) (st' := (⟨89, [e29_45, e29_46, e29_47, e29_48], [e29_10 l16, e29_30 l30002, e29_0 g sv, e29_16, hB 30201 [.pB l30201], hB 30202 [.pW (bOr .u32 c8 (l16.getD (((a22 - g.1)).toNat) (0 : Int)))]]⟩ : St)) rfl (by kernel_rfl) trivial ?_
               refine awd_done (by kernel_rfl) ?_
               exact rest5 (bOr .u32 c8 (l16.getD (((a22 - g.1)).toNat) (0 : Int))) h
              ·have h := h.2 hb
               refine aw_region ?_
               obtain ⟨o1, h⟩ := h
               refine rq 8 (ob := (Ts 5 (inIdx (a22 - g.1) l16.length ∧ Ts 2 True))) (st' := (⟨89, [e29_45, e29_46, e29_47, e29_48], [e29_10 l16, e29_30 l30002, e29_0 g sv, e29_16, hB 30201 [.pB l30201], hB 30202 [.pW (l16.getD (((a22 - g.1)).toNat) (0 : Int))]]⟩ : St)) (by kernel_rfl) (tsI 5 ⟨o1, tsI 2 trivial⟩) ?_
               refine awl_nil ?_
               exact rest5 (l16.getD (((a22 - g.1)).toNat) (0 : Int)) h
            ·refine aw_cond (b := (!decide ((bOr .u32 (c1.getD (((a22 - g.1)).toNat) (0 : Int)) c8) = (c1.getD (((a22 - g.1)).toNat) (0 : Int))))) (by kernel_rfl) (fun hb => ?_) (fun hb => ?_)
             ·have h := h.1 hb
              refine aw_seq ?_
              refine awd_begin [30002] (by kernel_rfl) ?_
              obtain ⟨o1, h⟩ := h
              refine drq (by kernel_rfl) [0, 1, 2, 3, 4, 5, 7] (ob := (Ts 5 (inIdx (a22 - g.1) c1.length ∧ Ts 1 True))) (done' := [7, 5, 4, 3, 2, 1, 0]) (st' := (⟨89, [e29_60, e29_72, e29_57, sI 9 (a22 - g.1), s1 59 (.own 30002), sI 60 (a22 - g.1), s1 61 (.el 30002 (((a22 - g.1)).toNat) 1), s1 63 (.pW c8), e29_45, e29_46, e29_47, e29_48], [e29_10 l16, e29_40 c1, e29_0 g sv, e29_16, e29_52 c7, e29_38 c8]⟩ : St)) (by kernel_rfl) (tsI 5 ⟨o1, tsI 1 trivial⟩) ?_
              refine awd_one (i := 6) (by kernel_rfl) ?_
              refine dsq (ob := True) (st' := (⟨89, [e29_60, e29_72, e29_57, sI 9 (a22 - g.1), s1 59 (.own 30002), sI 60 (a22 - g.1), s1 62 (.pW (c1.getD (((a22 - g.1)).toNat) (0 : Int))), s1 63 (.pW c8), e29_45, e29_46, e29_47, e29_48], [e29_10 l16, e29_40 c1, e29_0 g sv, e29_16, e29_52 c7, e29_38 c8]⟩ : St)) rfl (by kernel_rfl) trivial ?_
              obtain ⟨o1, h⟩ := h
              refine drq (by kernel_rfl) [8, 9] (ob := (Ts 1 (inIdx (a22 - g.1) c1.length ∧ True))) (done' := [9, 8, 6, 7, 5, 4, 3, 2, 1, 0]) (st' := (⟨89, [e29_60, e29_72, e29_57, sI 9 (a22 - g.1), s1 64 (.pW (bOr .u32 (c1.getD (((a22 - g.1)).toNat) (0 : Int)) c8)), s1 65 (.el 30002 (((a22 - g.1)).toNat) 1), e29_45, e29_46, e29_47, e29_48], [e29_10 l16, e29_40 c1, e29_0 g sv, e29_16, e29_52 c7, e29_38 c8]⟩ : St)) (by kernel_rfl) (tsI 1 ⟨o1, trivial⟩) ?_
              refine awd_one (i := 10) (by kernel_rfl) ?_
              refine dsq (ob := True) (st' := (⟨89, [e29_60, e29_72, e29_57, sI 9 (a22 - g.1), e29_45, e29_46, e29_47, e29_48], [e29_10 l16, hA 30002 28 (.int .u32) (c1.set (((a22 - g.1)).toNat) (bOr .u32 (c1.getD (((a22 - g.1)).toNat) (0 : Int)) c8)), e29_0 g sv, e29_16, e29_52 c7, e29_38 c8]⟩ : St)) rfl (by kernel_rfl) trivial ?_
              refine awd_done (by kernel_rfl) ?_
              refine thenQ_n ?_
              refine aw_region ?_
              refine rqT 1 ⟨89, [e29_60, e29_57, sI 9 (a22 - g.1), e29_45, e29_46, e29_47, e29_48], [e29_10 l16, hA 30002 28 (.int .u32) (c1.set (((a22 - g.1)).toNat) (bOr .u32 (c1.getD (((a22 - g.1)).toNat) (0 : Int)) c8)), e29_0 g sv, e29_16, hB 30201 [.pB true], e29_38 c8]⟩ (by kernel_rfl) ?_
              refine awl_nil ?_
              exact rest6 ((c1.set (((a22 - g.1)).toNat) (bOr .u32 (c1.getD (((a22 - g.1)).toNat) (0 : Int)) c8)), true) h
             ·have h := h.2 hb
              refine cpr (st' := (⟨89, [e29_60, e29_57, sI 9 (a22 - g.1), e29_45, e29_46, e29_47, e29_48], [e29_10 l16, e29_40 c1, e29_0 g sv, e29_16, e29_52 c7, e29_38 c8]⟩ : St)) (by kernel_rfl) ?_
              refine aw_skip ?_
              exact rest6 (c1, c7) h
         refine aw_conv [] (st' := (⟨19, [e29_62, e29_17 g v86, e29_49, sp 21 30200, e29_66, sp 25 30202, s1 39 (.fn 87 [(⟨(.sl tI), (g.2.2.2.getD (v86).toNat ((0 : Int), ([] : LI))).2⟩ : Dat)]), e29_64, e29_65, e29_50 ret71v, sB 118 grown2, e29_23 g, e29_37 g, sI 194 v86, sB 202 ret93v], [(37200, [], .lp lr1 (0 : Int) (VCo52_s1 30200 30201 30202)), e29_4 g, e29_10 l16, e29_29 l192, e29_0 g sv, e29_16, e29_61, e29_18 l192 g v86]⟩ : St)) (by kernel_rfl) ?_
         refine sr ?_
         obtain ⟨o1, h⟩ := h
         refine rq 4 (ob := (Ts 2 (InR ((((g.2.2.2.getD (v86).toNat ((0 : Int), ([] : LI))).2).length : Int) - (1 : Int)) ∧ Ts 1 True))) (st' := (⟨19, [e29_62, e29_17 g v86, sI 3 ((((g.2.2.2.getD (v86).toNat ((0 : Int), ([] : LI))).2).length : Int) - (1 : Int)), e29_66, e29_64, e29_65, e29_50 ret71v, sB 118 grown2, e29_23 g, e29_37 g, sI 194 v86, sB 202 ret93v, e29_49], [e29_4 g, e29_10 l16, e29_29 l192, e29_0 g sv, e29_16, e29_61, e29_18 l192 g v86, (37200, [], .lp lr1 (0 : Int) (VCo52_s1 30200 30201 30202))]⟩ : St)) (by kernel_rfl) (tsI 2 ⟨o1, tsI 1 trivial⟩) ?_
         refine nn ?_
         refine withJoin (σ := LI × Bool × Int) (fun s => (⟨19, [e29_66, e29_64, e29_65, e29_50 ret71v, sB 118 grown2, e29_23 g, e29_37 g, sI 194 v86, sB 202 ret93v, e29_49], [e29_4 g, e29_10 l16, hA 30002 28 (.int .u32) s.1, e29_0 g sv, e29_16, hB 30201 [.pB s.2.1], hB 30202 [.pW s.2.2], (37200, [], .lp lr1 (0 : Int) (VCo52_s1 30200 30201 30202))]⟩ : St)) (fun s => VCo52_k9 grown2 v86 X2 ret93v s.1 s.2.1 s.2.2) (fun s h => ?_) (fun rest8 => ?_)
         ·obtain ⟨l30002, grown3, l30202⟩ := s
          have h : VCo52_k9 grown2 v86 X2 ret93v l30002 grown3 l30202 := h
          unfold VCo52_k9 at h
          refine rfQ_n (0 : Int) (VCo52_s1 30200 30201 30202) rfl (by kernel_rfl) (by kernel_rfl) ⟨fun _ => ?_, fun h0 => absurd rfl h0, fun h0 => absurd rfl h0⟩
          refine cq [] (s' := (⟨89, [e29_72, e29_70, e29_71, s1 98 (.pW ret71v), sB 99 grown2, e29_24 g, e29_39 g, sI 175 v86, sB 183 ret93v], [e29_4 g, e29_10 l16, e29_30 l30002, e29_0 g sv, e29_16, hB 30201 [.pB grown3], hB 30202 [.pW l30202]]⟩ : St)) (by kernel_rfl) ?_
          refine blockQ_n ?_
          refine thenQ_n ?_
          refine srn 2 ⟨89, [sB 4 grown3, e29_70, e29_71, s1 98 (.pW ret71v), sB 99 grown2, e29_24 g, e29_39 g, sI 175 v86, sB 183 ret93v], [e29_4 g, e29_10 l16, e29_30 l30002, e29_0 g sv]⟩ (by kernel_rfl) rfl ?_
          refine aw_ret ?_
          refine inlR_r (ob := True) (.v (.c (.pB grown3))) (by kernel_rfl) trivial rfl ?_
          refine lpr (st' := (⟨101, [e29_67, e29_68, e29_32 ret71v, sB 10 grown2, e29_13 g, e29_28 g, sI 86 v86, sB 94 ret93v, sB 97 grown3], [e29_4 g, e29_10 l16, e29_30 l30002, e29_0 g sv]⟩ : St)) (by kernel_rfl) ?_
          refine rqT 1 ⟨101, [e29_67, e29_68, e29_32 ret71v, sB 10 grown2, e29_13 g, e29_28 g, sI 86 v86, sB 98 (ret93v && grown3)], [e29_4 g, e29_10 l16, e29_30 l30002, e29_0 g sv]⟩ (by kernel_rfl) ?_
          refine nn ?_
          refine withJoin (σ := Bool) (fun s => (⟨101, [e29_67, e29_68, e29_32 ret71v, sB 10 s, e29_13 g, e29_28 g, sI 86 v86], [e29_4 g, e29_10 l16, e29_30 l30002, e29_0 g sv]⟩ : St)) (fun s => VCo52_k10 v86 X2 l30002 s) (fun grown4 h => ?_) (fun rest7 => ?_)
          ·have h : VCo52_k10 v86 X2 l30002 grown4 := h
           unfold VCo52_k10 at h
           refine blockQ_n ?_
           exact rest3 (grown4, l30002) h
          ·refine aw_cond (b := (ret93v && grown3)) (by kernel_rfl) (fun hb => ?_) (fun hb => ?_)
           ·have h := h.1 hb
            refine aw_region ?_
            refine rqT 1 ⟨101, [e29_67, e29_68, e29_32 ret71v, sB 10 true, e29_13 g, e29_28 g, sI 86 v86], [e29_4 g, e29_10 l16, e29_30 l30002, e29_0 g sv]⟩ (by kernel_rfl) ?_
            refine awl_nil ?_
            exact rest7 true h
           ·have h := h.2 hb
            refine cpr (st' := (⟨101, [e29_67, e29_68, e29_32 ret71v, sB 10 grown2, e29_13 g, e29_28 g, sI 86 v86], [e29_4 g, e29_10 l16, e29_30 l30002, e29_0 g sv]⟩ : St)) (by kernel_rfl) ?_
            refine aw_skip ?_
            exact rest7 grown2 h
         ·refine aw_block ?_
          refine aw_loop (σ := Int × LI × Bool × Int) (fun s => (⟨19, [e29_62, e29_17 g v86, sI 3 s.1, e29_66, e29_64, e29_65, e29_50 ret71v, sB 118 grown2, e29_23 g, e29_37 g, sI 194 v86, sB 202 ret93v, e29_49], [e29_4 g, e29_10 l16, hA 30002 28 (.int .u32) s.2.1, e29_0 g sv, e29_16, hB 30201 [.pB s.2.2.1], hB 30202 [.pW s.2.2.2], (37200, [], .lp lr1 (0 : Int) (VCo52_s1 30200 30201 30202))]⟩ : St)) (fun s X => VCo52_l3 g sv l16 grown2 v86 X2 ret93v s.1 s.2.1 s.2.2.1 s.2.2.2 X) (s0 := (((((g.2.2.2.getD (v86).toNat ((0 : Int), ([] : LI))).2).length : Int) - (1 : Int)), l192, false, (l192.getD (((g.2.2.2.getD (v86).toNat ((0 : Int), ([] : LI))).1).toNat) (0 : Int)))) (fun s X3 h => ?_) h
          obtain ⟨i, l30002, grown3, l30202⟩ := s
          have h : VCo52_l3 g sv l16 grown2 v86 X2 ret93v i l30002 grown3 l30202 X3 := h
          unfold VCo52_l3 at h
          refine aw_seq ?_
          refine srn 2 ⟨19, [e29_62, e29_17 g v86, sI 3 i, sB 8 (decide ((0 : Int) ≤ i)), e29_66, e29_64, e29_65, e29_50 ret71v, sB 118 grown2, e29_23 g, e29_37 g, sI 194 v86, sB 202 ret93v, e29_49], [e29_4 g, e29_10 l16, e29_30 l30002, e29_0 g sv, e29_16, hB 30201 [.pB grown3], hB 30202 [.pW l30202], (37200, [], .lp lr1 (0 : Int) (VCo52_s1 30200 30201 30202))]⟩ (by kernel_rfl) rfl ?_
          refine aw_cond (b := (decide ((0 : Int) ≤ i))) (by kernel_rfl) (fun hb => ?_) (fun hb => ?_)
          ·have h := h.1 hb
           refine aw_skip ?_
           refine thenQ_n ?_
           refine aw_seq ?_
           refine aw_block ?_
           refine sr ?_
           obtain ⟨o1, h⟩ := h
           refine rq 6 (ob := (Ts 4 (inIdx i ((g.2.2.2.getD (v86).toNat ((0 : Int), ([] : LI))).2).length ∧ Ts 1 True))) (st' := (⟨19, [e29_62, e29_17 g v86, sI 3 i, s1 11 (.yv 37200), sI 12 i, sI 16 (((g.2.2.2.getD (v86).toNat ((0 : Int), ([] : LI))).2).getD (i).toNat (0 : Int)), e29_66, e29_64, e29_65, e29_50 ret71v, sB 118 grown2, e29_23 g, e29_37 g, sI 194 v86, sB 202 ret93v, e29_49], [e29_4 g, e29_10 l16, e29_30 l30002, e29_0 g sv, e29_16, hB 30201 [.pB grown3], hB 30202 [.pW l30202], (37200, [], .lp lr1 (0 : Int) (VCo52_s1 30200 30201 30202))]⟩ : St)) (by kernel_rfl) (tsI 4 ⟨o1, tsI 1 trivial⟩) ?_
           refine ycq (d := 17) e29_n0 (fun yt17v => (⟨19, [e29_62, e29_17 g v86, sI 3 i, sB 17 true, e29_66, e29_64, e29_65, e29_50 ret71v, sB 118 grown2, e29_23 g, e29_37 g, sI 194 v86, sB 202 ret93v, e29_49], [e29_4 g, e29_10 l16, hA 30002 28 (.int .u32) yt17v.1, e29_0 g sv, e29_16, hB 30201 [.pB yt17v.2.1], hB 30202 [.pW yt17v.2.2], (37200, [], .lp lr1 (0 : Int) (VCo52_s1 30200 30201 30202))]⟩ : St)) (fun yf17 => (⟨19, [e29_62, e29_17 g v86, sI 3 i, sB 17 false, e29_66, e29_64, e29_65, e29_50 ret71v, sB 118 grown2, e29_23 g, e29_37 g, sI 194 v86, sB 202 ret93v, e29_49], [e29_4 g, e29_10 l16, hA 30002 28 (.int .u32) yf17.2.1, e29_0 g sv, e29_16, hB 30201 [.pB yf17.2.2.1], hB 30202 [.pW yf17.2.2.2], (37200, [], .lp lr1 yf17.1 (VCo52_s1 30200 30201 30202))]⟩ : St)) (by kernel_rfl) (fun _ => by kernel_rfl) (fun _ => by kernel_rfl) (hY1 i (((g.2.2.2.getD (v86).toNat ((0 : Int), ([] : LI))).2).getD (i).toNat (0 : Int)) l30002 grown3 l30202 _ _ h) (fun yt17v h => ?_) (fun yf17 h => ?_)
           ·refine rqT 1 ⟨19, [e29_62, e29_17 g v86, sI 3 i, sB 18 (!true), e29_66, e29_64, e29_65, e29_50 ret71v, sB 118 grown2, e29_23 g, e29_37 g, sI 194 v86, sB 202 ret93v, e29_49], [e29_4 g, e29_10 l16, hA 30002 28 (.int .u32) yt17v.1, e29_0 g sv, e29_16, hB 30201 [.pB yt17v.2.1], hB 30202 [.pW yt17v.2.2], (37200, [], .lp lr1 (0 : Int) (VCo52_s1 30200 30201 30202))]⟩ (by kernel_rfl) ?_
            refine nn ?_
            refine aw_cond (b := (!true)) (by kernel_rfl) (fun hb => by cases hb) (fun _ => ?_)
            refine aw_skip ?_
            refine blockQ_n ?_
            refine thenQ_n ?_
            refine aw_region ?_
            obtain ⟨o1, h⟩ := h
            refine rq 3 (ob := (Ts 1 (InR (i - (1 : Int)) ∧ Ts 1 True))) (st' := (⟨19, [e29_62, e29_17 g v86, sI 3 (i - (1 : Int)), e29_66, e29_64, e29_65, e29_50 ret71v, sB 118 grown2, e29_23 g, e29_37 g, sI 194 v86, sB 202 ret93v, e29_49], [e29_4 g, e29_10 l16, hA 30002 28 (.int .u32) yt17v.1, e29_0 g sv, e29_16, hB 30201 [.pB yt17v.2.1], hB 30202 [.pW yt17v.2.2], (37200, [], .lp lr1 (0 : Int) (VCo52_s1 30200 30201 30202))]⟩ : St)) (by kernel_rfl) (tsI 1 ⟨o1, tsI 1 trivial⟩) ?_
            refine awl_nil ?_
            exact thenQ_n ⟨((i - (1 : Int)), yt17v.1, yt17v.2.1, yt17v.2.2), rfl, h⟩
           ·refine rqT 1 ⟨19, [e29_62, e29_17 g v86, sI 3 i, sB 18 (!false), e29_66, e29_64, e29_65, e29_50 ret71v, sB 118 grown2, e29_23 g, e29_37 g, sI 194 v86, sB 202 ret93v, e29_49], [e29_4 g, e29_10 l16, hA 30002 28 (.int .u32) yf17.2.1, e29_0 g sv, e29_16, hB 30201 [.pB yf17.2.2.1], hB 30202 [.pW yf17.2.2.2], (37200, [], .lp lr1 yf17.1 (VCo52_s1 30200 30201 30202))]⟩ (by kernel_rfl) ?_
            refine nn ?_
            refine aw_cond (b := (!false)) (by kernel_rfl) (fun _ => ?_) (fun hb => by cases hb)
            refine aw_ret ?_
            refine blockQ_r ?_
            refine thenQ_r ?_
            refine thenQ_r ?_
            refine blockQ_r ?_
            exact h.elim
          ·have h := h.2 hb
           refine cpr (st' := (⟨19, [e29_66, e29_64, e29_65, e29_50 ret71v, sB 118 grown2, e29_23 g, e29_37 g, sI 194 v86, sB 202 ret93v, e29_49], [e29_4 g, e29_10 l16, e29_30 l30002, e29_0 g sv, e29_16, hB 30201 [.pB grown3], hB 30202 [.pW l30202], (37200, [], .lp lr1 (0 : Int) (VCo52_s1 30200 30201 30202))]⟩ : St)) (by kernel_rfl) ?_
           refine aw_exit ?_
           refine thenQ_x ?_
           refine thenQ_x ?_
           refine blockQ_hit ?_
           exact rest8 (l30002, grown3, l30202) h
        ·have h := h.2 hb
         refine lpr (st' := (⟨101, [e29_67, e29_68, e29_32 ret71v, sB 10 grown2, e29_13 g, e29_28 g, sI 86 v86, sB 94 ret93v, (97, [(94, true)], .v (.c (.pB false)))], [e29_4 g, e29_10 l16, e29_29 l192, e29_0 g sv]⟩ : St)) (by kernel_rfl) ?_
         refine rqT 1 ⟨101, [e29_67, e29_68, e29_32 ret71v, sB 10 grown2, e29_13 g, e29_28 g, sI 86 v86, sB 98 (ret93v && false)], [e29_4 g, e29_10 l16, e29_29 l192, e29_0 g sv]⟩ (by kernel_rfl) ?_
         refine nn ?_
         refine withJoin (σ := Bool) (fun s => (⟨101, [e29_67, e29_68, e29_32 ret71v, sB 10 s, e29_13 g, e29_28 g, sI 86 v86], [e29_4 g, e29_10 l16, e29_29 l192, e29_0 g sv]⟩ : St)) (fun s => VCo52_k11 v86 l192 X2 s) (fun grown3 h => ?_) (fun rest9 => ?_)
         ·have h : VCo52_k11 v86 l192 X2 grown3 := h
          unfold VCo52_k11 at h
          refine blockQ_n ?_
          exact rest3 (grown3, l192) h
         ·refine aw_cond (b := (ret93v && false)) (by kernel_rfl) (fun hb => ?_) (fun hb => ?_)
          ·have h := h.1 hb
           refine aw_region ?_
           refine rqT 1 ⟨101, [e29_67, e29_68, e29_32 ret71v, sB 10 true, e29_13 g, e29_28 g, sI 86 v86], [e29_4 g, e29_10 l16, e29_29 l192, e29_0 g sv]⟩ (by kernel_rfl) ?_
           refine awl_nil ?_
           exact rest9 true h
          ·have h := h.2 hb
           refine cpr (st' := (⟨101, [e29_67, e29_68, e29_32 ret71v, sB 10 grown2, e29_13 g, e29_28 g, sI 86 v86], [e29_4 g, e29_10 l16, e29_29 l192, e29_0 g sv]⟩ : St)) (by kernel_rfl) ?_
           refine aw_skip ?_
           exact rest9 grown2 h
      ·have h := h.2 hb
       refine cpr (st' := (⟨101, [sp 1 1, sp 3 23, e29_32 ret71v, sB 10 grown2], [e29_1 g, e29_26 l16, e29_63 l192, e29_2 g sv]⟩ : St)) (by kernel_rfl) ?_
       refine aw_exit ?_
       refine thenQ_x ?_
       refine thenQ_x ?_
       refine blockQ_hit ?_
       exact rest2 (grown2, l192) h
    ·have h := h.2 hb
     refine cpr (st' := (⟨101, [sp 3 23], [e29_26 l16, hA 19 28 (.int .u32) l19, e29_2 g sv]⟩ : St)) (by kernel_rfl) ?_
     refine aw_exit ?_
     refine thenQ_x ?_
     refine thenQ_x ?_
     refine blockQ_hit ?_
     exact rest1 l19 h
  ·refine aw_block ?_
   refine aw_loop (σ := Bool × LI) (fun s => (⟨101, [sp 1 1, sp 3 23, sB 4 s.1], [e29_1 g, hA 16 28 (.int .u32) s.2, e29_6 g, e29_2 g sv]⟩ : St)) (fun s X => VCo52_l4 g K sv s.1 s.2 X) (s0 := (true, (List.replicate (g.2.1).toNat (0 : Int)))) (fun s X4 h => ?_) h
   obtain ⟨grown, l16⟩ := s
   have h : VCo52_l4 g K sv grown l16 X4 := h
   unfold VCo52_l4 at h
   refine aw_seq ?_
   refine srn 1 ⟨101, [sp 1 1, sp 3 23, sB 24 grown], [e29_1 g, e29_26 l16, e29_6 g, e29_2 g sv]⟩ (by kernel_rfl) rfl ?_
   refine aw_cond (b := grown) (by kernel_rfl) (fun hb => ?_) (fun hb => ?_)
   ·have h := h.1 hb
    refine aw_skip ?_
    refine thenQ_n ?_
    refine aw_block ?_
    refine sr ?_
    refine rqT 1 ⟨101, [sp 1 1, sp 3 23, sB 4 false], [e29_1 g, e29_26 l16, e29_6 g, e29_2 g sv]⟩ (by kernel_rfl) ?_
    refine nsr ?_
    refine rqT 4 ⟨101, [sp 1 1, sp 3 23, sB 4 false, e29_15 g, e29_33 g, sI 28 (0 : Int)], [e29_1 g, e29_26 l16, e29_6 g, e29_2 g sv]⟩ (by kernel_rfl) ?_
    refine nn ?_
    refine withJoin (σ := Bool × LI) (fun s => (⟨101, [sp 1 1, sp 3 23, sB 4 s.1], [e29_1 g, hA 16 28 (.int .u32) s.2, e29_6 g, e29_2 g sv]⟩ : St)) (fun s => VCo52_k12 X4 s.1 s.2) (fun s h => ?_) (fun rest11 => ?_)
    ·obtain ⟨grown2, l162⟩ := s
     have h : VCo52_k12 X4 grown2 l162 := h
     unfold VCo52_k12 at h
     refine blockQ_n ?_
     exact thenQ_n ⟨(grown2, l162), rfl, h⟩
    ·refine aw_block ?_
     refine aw_loop (σ := Bool × Int × LI) (fun s => (⟨101, [sp 1 1, sp 3 23, sB 4 s.1, e29_15 g, e29_33 g, sI 28 s.2.1], [e29_1 g, hA 16 28 (.int .u32) s.2.2, e29_6 g, e29_2 g sv]⟩ : St)) (fun s X => VCo52_l5 g sv X4 s.1 s.2.1 s.2.2 X) (s0 := (false, (0 : Int), l16)) (fun s X5 h => ?_) h
     obtain ⟨grown2, v28, l162⟩ := s
     have h : VCo52_l5 g sv X4 grown2 v28 l162 X5 := h
     unfold VCo52_l5 at h
     refine srn 1 ⟨101, [sp 1 1, sp 3 23, sB 4 grown2, e29_15 g, e29_33 g, sI 28 v28, sB 29 (decide (v28 < (g.2.2.2.length : Int)))], [e29_1 g, hA 16 28 (.int .u32) l162, e29_6 g, e29_2 g sv]⟩ (by kernel_rfl) rfl ?_
     refine aw_seq ?_
     refine aw_cond (b := (decide (v28 < (g.2.2.2.length : Int)))) (by kernel_rfl) (fun hb => ?_) (fun hb => ?_)
     ·have h := h.1 hb
      refine aw_skip ?_
      refine thenQ_n ?_
      refine aw_seq ?_
      refine aw_block ?_
      refine sr ?_
      obtain ⟨o1, h⟩ := h
      refine rq 4 (ob := (inIdx v28 g.2.2.2.length ∧ Ts 3 True)) (st' := (⟨101, [sp 1 1, sp 3 23, sB 4 grown2, sp 6 6, e29_15 g, e29_33 g, sI 28 v28], [e29_1 g, e29_43 g v28, hA 16 28 (.int .u32) l162, e29_6 g, e29_2 g sv]⟩ : St)) (by kernel_rfl) (⟨o1, tsI 3 trivial⟩) ?_
      refine nsr ?_
      refine rqT 3 ⟨101, [sp 1 1, sp 3 23, sB 4 grown2, sp 6 6, e29_15 g, e29_33 g, sI 28 v28, sp 33 23, s1 35 (.pS ((g.2.2.2.getD (v28).toNat ((0 : Int), ([] : LI))).2))], [e29_1 g, e29_43 g v28, hA 16 28 (.int .u32) l162, e29_6 g, e29_2 g sv]⟩ (by kernel_rfl) ?_
      refine awl_conv [.ren 1 30500, .ren 6 30501, .ren 16 30502, .ren 19 30503, .ren 23 30504] (st' := (⟨101, [e29_73, e29_74, sB 4 grown2, sp 6 30501, e29_15 g, e29_33 g, sI 28 v28, sp 33 30504, s1 35 (.pS ((g.2.2.2.getD (v28).toNat ((0 : Int), ([] : LI))).2))], [e29_5 g, e29_7 g v28, e29_19 l162, e29_8 g, e29_3 g sv]⟩ : St)) (by kernel_rfl) ?_
      refine awl_inlr [.t 4, .t 5] [30500, 30501, 30502, 30503, 30504] [.c (.ptr 30504 0), .c (.pS ((g.2.2.2.getD (v28).toNat ((0 : Int), ([] : LI))).2))] [] rfl rfl (by kernel_rfl) rfl (by kernel_rfl) Try.call82 (by kernel_rfl) (by kernel_rfl) Try.func82 rfl rfl (by kernel_rfl) ?_
      refine aw_conv [] (st' := (⟨57, [e29_69, e29_56 g v28, e29_53, e29_54, sB 61 grown2, e29_55, e29_14 g, e29_31 g, sI 85 v28, sp 90 30504, s1 92 (.pS ((g.2.2.2.getD (v28).toNat ((0 : Int), ([] : LI))).2))], [e29_5 g, e29_7 g v28, e29_19 l162, e29_8 g, e29_3 g sv]⟩ : St)) (by kernel_rfl) ?_
      refine withJoinR (σ := Int × Bool) (fun s => (⟨57, [s1 4 (.pW s.1), sB 5 s.2, e29_53, e29_54, sB 61 grown2, e29_55, e29_14 g, e29_31 g, sI 85 v28], [e29_5 g, e29_7 g v28, e29_19 l162, e29_8 g, e29_3 g sv]⟩ : St)) (fun s => VCo52_k13 g grown2 v28 l162 X5 s.1 s.2) (fun s h => ?_) (fun rest13 => ?_)
      ·obtain ⟨v4, v5⟩ := s
       have h : VCo52_k13 g grown2 v28 l162 X5 v4 v5 := h
       unfold VCo52_k13 at h
       refine inlR_n (ob := (True ∧ True ∧ True)) (.tup [.c (.pW v4), .c (.pB v5)]) (by kernel_rfl) ⟨trivial, trivial, trivial⟩ rfl ?_
       refine lpr (st' := (⟨101, [e29_73, e29_74, sB 4 grown2, sp 6 30501, e29_15 g, e29_33 g, sI 28 v28, (36, [], .tup [.c (.pW v4), .c (.pB v5)])], [e29_5 g, e29_7 g v28, e29_19 l162, e29_8 g, e29_3 g sv]⟩ : St)) (by kernel_rfl) ?_
       refine rqT 5 ⟨101, [e29_73, e29_74, sB 4 grown2, sp 6 30501, s1 7 (.pW v4), e29_15 g, e29_33 g, sI 28 v28], [e29_5 g, e29_7 g v28, e29_19 l162, e29_8 g, e29_3 g sv]⟩ (by kernel_rfl) ?_
       refine nn ?_
       refine aw_seq ?_
       refine awd_begin [] (by kernel_rfl) ?_
       obtain ⟨o1, o2, h⟩ := h
       refine drq (by kernel_rfl) [0, 1, 2, 3, 4, 5, 6, 7, 8, 9, 10, 11, 12, 13, 14, 15, 16, 17, 18] (ob := (Ts 6 (inIdx ((g.2.2.2.getD (v28).toNat ((0 : Int), ([] : LI))).1) l162.length ∧ Ts 9 (inIdx ((g.2.2.2.getD (v28).toNat ((0 : Int), ([] : LI))).1) l162.length ∧ Ts 2 True)))) (done' := [18, 17, 16, 15, 14, 13, 12, 11, 10, 9, 8, 7, 6, 5, 4, 3, 2, 1, 0]) (st' := (⟨101, [e29_73, e29_74, sB 4 grown2, sp 6 30501, s1 7 (.pW v4), e29_15 g, e29_33 g, sI 28 v28, sB 57 (!decide ((bOr .u32 (l162.getD (((g.2.2.2.getD (v28).toNat ((0 : Int), ([] : LI))).1).toNat) (0 : Int)) v4) = (l162.getD (((g.2.2.2.getD (v28).toNat ((0 : Int), ([] : LI))).1).toNat) (0 : Int))))], [e29_5 g, e29_7 g v28, e29_19 l162, e29_8 g, e29_3 g sv]⟩ : St)) (by kernel_rfl) (tsI 6 (⟨o1, tsI 9 ⟨o2, tsI 2 trivial⟩⟩)) ?_
       refine awd_done (by kernel_rfl) ?_
       refine thenQ_n ?_
       refine withJoin (σ := Bool × LI) (fun s => (⟨101, [e29_73, e29_74, sB 4 s.1, e29_15 g, e29_33 g, sI 28 v28], [e29_5 g, hA 30502 28 (.int .u32) s.2, e29_8 g, e29_3 g sv]⟩ : St)) (fun s => VCo52_k14 v28 X5 s.1 s.2) (fun s h => ?_) (fun rest12 => ?_)
       ·obtain ⟨grown3, l30502⟩ := s
        have h : VCo52_k14 v28 X5 grown3 l30502 := h
        unfold VCo52_k14 at h
        refine blockQ_n ?_
        refine thenQ_n ?_
        refine aw_region ?_
        obtain ⟨o1, h⟩ := h
        refine rq 2 (ob := (InR (v28 + (1 : Int)) ∧ Ts 1 True)) (st' := (⟨101, [e29_73, e29_74, sB 4 grown3, e29_15 g, e29_33 g, sI 28 (v28 + (1 : Int))], [e29_5 g, hA 30502 28 (.int .u32) l30502, e29_8 g, e29_3 g sv]⟩ : St)) (by kernel_rfl) (⟨o1, tsI 1 trivial⟩) ?_
        refine awl_conv [.ren 30500 50500, .ren 30504 50504, .ren 30502 50502, .ren 30503 50503, .ren 50500 1, .ren 50504 23, .ren 50502 16, .ren 50503 19] (st' := (⟨101, [sp 1 1, sp 3 23, sB 4 grown3, e29_15 g, e29_33 g, sI 28 (v28 + (1 : Int))], [e29_1 g, hA 16 28 (.int .u32) l30502, e29_6 g, e29_2 g sv]⟩ : St)) (by kernel_rfl) ?_
        refine awl_nil ?_
        exact thenQ_n ⟨(grown3, (v28 + (1 : Int)), l30502), rfl, h⟩
       ·refine aw_cond (b := (!decide ((bOr .u32 (l162.getD (((g.2.2.2.getD (v28).toNat ((0 : Int), ([] : LI))).1).toNat) (0 : Int)) v4) = (l162.getD (((g.2.2.2.getD (v28).toNat ((0 : Int), ([] : LI))).1).toNat) (0 : Int))))) (by kernel_rfl) (fun hb => ?_) (fun hb => ?_)
        ·have h := h.1 hb
         refine aw_seq ?_
         refine awd_begin [30502] (by kernel_rfl) ?_
         obtain ⟨o1, h⟩ := h
         refine drq (by kernel_rfl) [0, 1, 2, 3, 4, 5, 6, 8] (ob := (Ts 6 (inIdx ((g.2.2.2.getD (v28).toNat ((0 : Int), ([] : LI))).1) l162.length ∧ Ts 1 True))) (done' := [8, 6, 5, 4, 3, 2, 1, 0]) (st' := (⟨101, [e29_73, e29_74, e29_15 g, e29_33 g, sI 28 v28, s1 61 (.own 30502), sI 63 ((g.2.2.2.getD (v28).toNat ((0 : Int), ([] : LI))).1), s1 64 (.el 30502 (((g.2.2.2.getD (v28).toNat ((0 : Int), ([] : LI))).1).toNat) 1), s1 66 (.pW v4)], [e29_5 g, e29_19 l162, e29_8 g, e29_3 g sv]⟩ : St)) (by kernel_rfl) (tsI 6 ⟨o1, tsI 1 trivial⟩) ?_
         refine awd_one (i := 7) (by kernel_rfl) ?_
         refine dsq (ob := True) (st' := (⟨101, [e29_73, e29_74, e29_15 g, e29_33 g, sI 28 v28, s1 61 (.own 30502), sI 63 ((g.2.2.2.getD (v28).toNat ((0 : Int), ([] : LI))).1), s1 65 (.pW (l162.getD (((g.2.2.2.getD (v28).toNat ((0 : Int), ([] : LI))).1).toNat) (0 : Int))), s1 66 (.pW v4)], [e29_5 g, e29_19 l162, e29_8 g, e29_3 g sv]⟩ : St)) rfl (by kernel_rfl) trivial ?_
         obtain ⟨o1, h⟩ := h
         refine drq (by kernel_rfl) [9, 10] (ob := (Ts 1 (inIdx ((g.2.2.2.getD (v28).toNat ((0 : Int), ([] : LI))).1) l162.length ∧ True))) (done' := [10, 9, 7, 8, 6, 5, 4, 3, 2, 1, 0]) (st' := (⟨101, [e29_73, e29_74, e29_15 g, e29_33 g, sI 28 v28, s1 67 (.pW (bOr .u32 (l162.getD (((g.2.2.2.getD (v28).toNat ((0 : Int), ([] : LI))).1).toNat) (0 : Int)) v4)), s1 68 (.el 30502 (((g.2.2.2.getD (v28).toNat ((0 : Int), ([] : LI))).1).toNat) 1)], [e29_5 g, e29_19 l162, e29_8 g, e29_3 g sv]⟩ : St)) (by kernel_rfl) (tsI 1 ⟨o1, trivial⟩) ?_
         refine awd_one (i := 11) (by kernel_rfl) ?_
         refine dsq (ob := True) (st' := (⟨101, [e29_73, e29_74, e29_15 g, e29_33 g, sI 28 v28], [e29_5 g, e29_35 l162 g v28 v4, e29_8 g, e29_3 g sv]⟩ : St)) rfl (by kernel_rfl) trivial ?_
         refine awd_done (by kernel_rfl) ?_
         refine thenQ_n ?_
         refine aw_region ?_
         refine rqT 1 ⟨101, [e29_73, e29_74, sB 4 true, e29_15 g, e29_33 g, sI 28 v28], [e29_5 g, e29_35 l162 g v28 v4, e29_8 g, e29_3 g sv]⟩ (by kernel_rfl) ?_
         refine awl_nil ?_
         exact rest12 (true, (l162.set (((g.2.2.2.getD (v28).toNat ((0 : Int), ([] : LI))).1).toNat) (bOr .u32 (l162.getD (((g.2.2.2.getD (v28).toNat ((0 : Int), ([] : LI))).1).toNat) (0 : Int)) v4))) h
        ·have h := h.2 hb
         refine cpr (st' := (⟨101, [e29_73, e29_74, sB 4 grown2, e29_15 g, e29_33 g, sI 28 v28], [e29_5 g, e29_19 l162, e29_8 g, e29_3 g sv]⟩ : St)) (by kernel_rfl) ?_
         refine aw_skip ?_
         exact rest12 (grown2, l162) h
      ·refine sr ?_
       refine rqT 2 ⟨57, [e29_69, e29_56 g v28, e29_53, e29_54, sB 61 grown2, e29_55, e29_14 g, e29_31 g, sI 85 v28], [e29_5 g, e29_7 g v28, e29_19 l162, e29_8 g, e29_3 g sv]⟩ (by kernel_rfl) ?_
       refine nsr ?_
       refine rqT 1 ⟨57, [e29_69, e29_56 g v28, s1 6 (.pW (0 : Int)), e29_53, e29_54, sB 61 grown2, e29_55, e29_14 g, e29_31 g, sI 85 v28], [e29_5 g, e29_7 g v28, e29_19 l162, e29_8 g, e29_3 g sv]⟩ (by kernel_rfl) ?_
       refine nn ?_
       refine aw_seq ?_
       refine srn 3 ⟨57, [e29_69, s1 6 (.pW (0 : Int)), e29_25 g v28, e29_20 g v28, sI 11 (0 : Int), e29_53, e29_54, sB 61 grown2, e29_55, e29_14 g, e29_31 g, sI 85 v28], [e29_5 g, e29_7 g v28, e29_19 l162, e29_8 g, e29_3 g sv]⟩ (by kernel_rfl) rfl ?_
       refine withJoin (σ := Int) (fun s => (⟨57, [s1 6 (.pW s), e29_53, e29_54, sB 61 grown2, e29_55, e29_14 g, e29_31 g, sI 85 v28], [e29_5 g, e29_7 g v28, e29_19 l162, e29_8 g, e29_3 g sv]⟩ : St)) (fun s => VCo52_k15 g grown2 v28 l162 X5 s) (fun out h => ?_) (fun rest14 => ?_)
       ·have h : VCo52_k15 g grown2 v28 l162 X5 out := h
        unfold VCo52_k15 at h
        refine thenQ_n ?_
        refine srn 3 ⟨57, [s1 4 (.pW out), sB 5 true, e29_53, e29_54, sB 61 grown2, e29_55, e29_14 g, e29_31 g, sI 85 v28], [e29_5 g, e29_7 g v28, e29_19 l162, e29_8 g, e29_3 g sv]⟩ (by kernel_rfl) rfl ?_
        refine aw_ret ?_
        exact rest13 (out, true) h
       ·refine aw_block ?_
        refine aw_loop (σ := Int × Int) (fun s => (⟨57, [e29_69, s1 6 (.pW s.1), e29_25 g v28, e29_20 g v28, sI 11 s.2, e29_53, e29_54, sB 61 grown2, e29_55, e29_14 g, e29_31 g, sI 85 v28], [e29_5 g, e29_7 g v28, e29_19 l162, e29_8 g, e29_3 g sv]⟩ : St)) (fun s X => VCo52_l6 g sv grown2 v28 l162 X5 s.1 s.2 X) (s0 := ((0 : Int), (0 : Int))) (fun s X6 h => ?_) h
        obtain ⟨out, v11⟩ := s
        have h : VCo52_l6 g sv grown2 v28 l162 X5 out v11 X6 := h
        unfold VCo52_l6 at h
        refine srn 1 ⟨57, [e29_69, s1 6 (.pW out), e29_25 g v28, e29_20 g v28, sI 11 v11, sB 12 (decide (v11 < (((g.2.2.2.getD (v28).toNat ((0 : Int), ([] : LI))).2).length : Int))), e29_53, e29_54, sB 61 grown2, e29_55, e29_14 g, e29_31 g, sI 85 v28], [e29_5 g, e29_7 g v28, e29_19 l162, e29_8 g, e29_3 g sv]⟩ (by kernel_rfl) rfl ?_
        refine aw_seq ?_
        refine aw_cond (b := (decide (v11 < (((g.2.2.2.getD (v28).toNat ((0 : Int), ([] : LI))).2).length : Int)))) (by kernel_rfl) (fun hb => ?_) (fun hb => ?_)
        ·have h := h.1 hb
         refine aw_skip ?_
         refine thenQ_n ?_
         refine aw_seq ?_
         refine aw_block ?_
         refine sr ?_
         obtain ⟨o1, h⟩ := h
         refine rq 3 (ob := (inIdx v11 ((g.2.2.2.getD (v28).toNat ((0 : Int), ([] : LI))).2).length ∧ Ts 2 True)) (st' := (⟨57, [e29_69, s1 6 (.pW out), e29_42 g v28 v11, e29_25 g v28, e29_20 g v28, sI 11 v11, e29_53, e29_54, sB 61 grown2, e29_55, e29_14 g, e29_31 g, sI 85 v28], [e29_5 g, e29_7 g v28, e29_19 l162, e29_8 g, e29_3 g sv]⟩ : St)) (by kernel_rfl) (⟨o1, tsI 2 trivial⟩) ?_
         refine nn ?_
         refine aw_seq ?_
         refine srn 7 ⟨57, [e29_69, s1 6 (.pW out), e29_42 g v28 v11, e29_25 g v28, e29_20 g v28, sI 11 v11, sB 21 (decide ((((g.2.2.2.getD (v28).toNat ((0 : Int), ([] : LI))).2).getD (v11).toNat (0 : Int)) < g.1)), e29_53, e29_54, sB 61 grown2, e29_55, e29_14 g, e29_31 g, sI 85 v28], [e29_5 g, e29_7 g v28, e29_19 l162, e29_8 g, e29_3 g sv]⟩ (by kernel_rfl) rfl ?_
         refine aw_cond (b := (decide ((((g.2.2.2.getD (v28).toNat ((0 : Int), ([] : LI))).2).getD (v11).toNat (0 : Int)) < g.1))) (by kernel_rfl) (fun hb => ?_) (fun hb => ?_)
         ·have h := h.1 hb
          refine sr ?_
          obtain ⟨o1, h⟩ := h
          refine rq 6 (ob := (Ts 2 (0 ≤ (((g.2.2.2.getD (v28).toNat ((0 : Int), ([] : LI))).2).getD (v11).toNat (0 : Int)) ∧ Ts 3 True))) (st' := (⟨57, [s1 4 (.pW (bOr .u32 out (bShl .u32 (1 : Int) (((g.2.2.2.getD (v28).toNat ((0 : Int), ([] : LI))).2).getD (v11).toNat (0 : Int))))), sB 5 false, e29_53, e29_54, sB 61 grown2, e29_55, e29_14 g, e29_31 g, sI 85 v28], [e29_5 g, e29_7 g v28, e29_19 l162, e29_8 g, e29_3 g sv]⟩ : St)) (by kernel_rfl) (tsI 2 ⟨o1, tsI 3 trivial⟩) ?_
          refine nn ?_
          refine aw_ret ?_
          refine thenQ_r ?_
          refine blockQ_r ?_
          refine thenQ_r ?_
          refine thenQ_r ?_
          refine blockQ_r ?_
          refine thenQ_r ?_
          exact rest13 ((bOr .u32 out (bShl .u32 (1 : Int) (((g.2.2.2.getD (v28).toNat ((0 : Int), ([] : LI))).2).getD (v11).toNat (0 : Int)))), false) h
         ·have h := h.2 hb
          refine aw_skip ?_
          refine thenQ_n ?_
          refine aw_seq ?_
          refine awd_begin [] (by kernel_rfl) ?_
          obtain ⟨o1, o2, h⟩ := h
          refine drq (by kernel_rfl) [0, 1, 2, 3, 4, 5, 6, 7, 8, 9, 10, 11, 12, 13, 14, 15] (ob := (Ts 11 (InR ((((g.2.2.2.getD (v28).toNat ((0 : Int), ([] : LI))).2).getD (v11).toNat (0 : Int)) - g.1) ∧ inIdx ((((g.2.2.2.getD (v28).toNat ((0 : Int), ([] : LI))).2).getD (v11).toNat (0 : Int)) - g.1) l162.length ∧ Ts 3 True))) (done' := [15, 14, 13, 12, 11, 10, 9, 8, 7, 6, 5, 4, 3, 2, 1, 0]) (st' := (⟨57, [e29_69, e29_21 out l162 g v28 v11, e29_42 g v28 v11, e29_25 g v28, e29_20 g v28, sI 11 v11, e29_53, e29_54, sB 61 grown2, e29_55, e29_14 g, e29_31 g, sI 85 v28], [e29_5 g, e29_7 g v28, e29_19 l162, e29_8 g, e29_3 g sv]⟩ : St)) (by kernel_rfl) (tsI 11 (⟨o1, ⟨o2, tsI 3 trivial⟩⟩)) ?_
          refine awd_done (by kernel_rfl) ?_
          refine thenQ_n ?_
          refine aw_seq ?_
          refine awd_begin [] (by kernel_rfl) ?_
          obtain ⟨o1, h⟩ := h
          refine drq (by kernel_rfl) [0, 1, 2, 3, 4, 5, 6, 7, 8, 9, 10] (ob := (Ts 10 (InR ((((g.2.2.2.getD (v28).toNat ((0 : Int), ([] : LI))).2).getD (v11).toNat (0 : Int)) - g.1) ∧ True))) (done' := [10, 9, 8, 7, 6, 5, 4, 3, 2, 1, 0]) (st' := (⟨57, [e29_69, e29_21 out l162 g v28 v11, e29_25 g v28, e29_20 g v28, sI 11 v11, s1 44 (.pW sv), sI 51 ((((g.2.2.2.getD (v28).toNat ((0 : Int), ([] : LI))).2).getD (v11).toNat (0 : Int)) - g.1), e29_53, e29_54, sB 61 grown2, e29_55, e29_14 g, e29_31 g, sI 85 v28], [e29_5 g, e29_7 g v28, e29_19 l162, e29_8 g, e29_3 g sv]⟩ : St)) (by kernel_rfl) (tsI 10 ⟨o1, trivial⟩) ?_
          refine awd_one (i := 11) (by kernel_rfl) ?_
          refine dcq (d := 52) [.d (.int .u32), .d tI] (fun ret52v => (⟨57, [e29_69, e29_21 out l162 g v28 v11, e29_25 g v28, e29_20 g v28, sI 11 v11, sB 52 ret52v, e29_53, e29_54, sB 61 grown2, e29_55, e29_14 g, e29_31 g, sI 85 v28], [e29_5 g, e29_7 g v28, e29_19 l162, e29_8 g, e29_3 g sv]⟩ : St)) rfl (by kernel_rfl) Try.call47 (fun _ => by kernel_rfl) (link47 sv ((((g.2.2.2.getD (v28).toNat ((0 : Int), ([] : LI))).2).getD (v11).toNat (0 : Int)) - g.1) _ h) (fun ret52v h => ?_)
          refine drq (by kernel_rfl) [12] (ob := (Ts 1 True)) (done' := [12, 11, 10, 9, 8, 7, 6, 5, 4, 3, 2, 1, 0]) (st' := (⟨57, [e29_69, e29_21 out l162 g v28 v11, e29_25 g v28, e29_20 g v28, sI 11 v11, sB 53 (!ret52v), e29_53, e29_54, sB 61 grown2, e29_55, e29_14 g, e29_31 g, sI 85 v28], [e29_5 g, e29_7 g v28, e29_19 l162, e29_8 g, e29_3 g sv]⟩ : St)) (by kernel_rfl) (tsI 1 trivial) ?_
          refine awd_done (by kernel_rfl) ?_
          refine thenQ_n ?_
          refine aw_cond (b := (!ret52v)) (by kernel_rfl) (fun hb => ?_) (fun hb => ?_)
          ·have h := h.1 hb
           refine srn 3 ⟨57, [s1 4 (.pW (bOr .u32 out (l162.getD ((((((g.2.2.2.getD (v28).toNat ((0 : Int), ([] : LI))).2).getD (v11).toNat (0 : Int)) - g.1)).toNat) (0 : Int)))), sB 5 false, e29_53, e29_54, sB 61 grown2, e29_55, e29_14 g, e29_31 g, sI 85 v28], [e29_5 g, e29_7 g v28, e29_19 l162, e29_8 g, e29_3 g sv]⟩ (by kernel_rfl) rfl ?_
           refine aw_ret ?_
           refine blockQ_r ?_
           refine thenQ_r ?_
           refine thenQ_r ?_
           refine blockQ_r ?_
           refine thenQ_r ?_
           exact rest13 ((bOr .u32 out (l162.getD ((((((g.2.2.2.getD (v28).toNat ((0 : Int), ([] : LI))).2).getD (v11).toNat (0 : Int)) - g.1)).toNat) (0 : Int))), false) h
          ·have h := h.2 hb
           refine aw_skip ?_
           refine blockQ_n ?_
           refine thenQ_n ?_
           refine aw_region ?_
           obtain ⟨o1, h⟩ := h
           refine rq 2 (ob := (InR (v11 + (1 : Int)) ∧ Ts 1 True)) (st' := (⟨57, [e29_69, e29_21 out l162 g v28 v11, e29_25 g v28, e29_20 g v28, sI 11 (v11 + (1 : Int)), e29_53, e29_54, sB 61 grown2, e29_55, e29_14 g, e29_31 g, sI 85 v28], [e29_5 g, e29_7 g v28, e29_19 l162, e29_8 g, e29_3 g sv]⟩ : St)) (by kernel_rfl) (⟨o1, tsI 1 trivial⟩) ?_
           refine awl_nil ?_
           exact thenQ_n ⟨((bOr .u32 out (l162.getD ((((((g.2.2.2.getD (v28).toNat ((0 : Int), ([] : LI))).2).getD (v11).toNat (0 : Int)) - g.1)).toNat) (0 : Int))), (v11 + (1 : Int))), rfl, h⟩
        ·have h := h.2 hb
         refine cpr (st' := (⟨57, [s1 6 (.pW out), e29_53, e29_54, sB 61 grown2, e29_55, e29_14 g, e29_31 g, sI 85 v28], [e29_5 g, e29_7 g v28, e29_19 l162, e29_8 g, e29_3 g sv]⟩ : St)) (by kernel_rfl) ?_
         refine aw_exit ?_
         refine thenQ_x ?_
         refine thenQ_x ?_
         refine blockQ_hit ?_
         exact rest14 out h
     ·have h := h.2 hb
      refine cpr (st' := (⟨101, [sp 1 1, sp 3 23, sB 4 grown2], [e29_1 g, hA 16 28 (.int .u32) l162, e29_6 g, e29_2 g sv]⟩ : St)) (by kernel_rfl) ?_
      refine aw_exit ?_
      refine thenQ_x ?_
      refine thenQ_x ?_
      refine blockQ_hit ?_
      exact rest11 (grown2, l162) h
   ·have h := h.2 hb
    refine cpr (st' := (⟨101, [sp 1 1, sp 3 23], [e29_1 g, e29_26 l16, e29_6 g, e29_2 g sv]⟩ : St)) (by kernel_rfl) ?_
    refine aw_exit ?_
    refine thenQ_x ?_
    refine thenQ_x ?_
    refine blockQ_hit ?_
    exact rest10 l16 h
 ·refine awd_begin [] (by kernel_rfl) ?_
  refine drq (by kernel_rfl) [0, 1, 2, 4, 5, 7] (ob := (Ts 6 True)) (done' := [7, 5, 4, 2, 1, 0]) (st' := (⟨101, [sp 1 1, e29_11 g, sI 15 g.2.1, sI 18 g.2.1, e29_34 g], [e29_1 g]⟩ : St)) (by kernel_rfl) (tsI 6 trivial) ?_
  refine awd_three (i := 3) (j := 6) (k := 8) (by kernel_rfl) ?_ ?_ ?_
  ·have h := h.1
   obtain ⟨o1, h⟩ := h
   refine dsq (ob := room g.2.1) (st' := (⟨101, [sp 1 1, e29_11 g, e29_58, sI 18 g.2.1, e29_34 g], [e29_1 g, e29_9 g]⟩ : St)) rfl (by kernel_rfl) o1 ?_
   refine awd_two (i := 6) (j := 8) (by kernel_rfl) ?_ ?_
   ·have h := h.1
    obtain ⟨o1, h⟩ := h
    refine dsq (ob := room g.2.1) (st' := (⟨101, [sp 1 1, e29_11 g, e29_58, e29_59, e29_34 g], [e29_1 g, e29_9 g, e29_6 g]⟩ : St)) rfl (by kernel_rfl) o1 ?_
    refine awd_one (i := 8) (by kernel_rfl) ?_
    refine dcq (d := 21) [.d tG] (fun ret21v => (⟨101, [sp 1 1, e29_11 g, e29_58, e29_59, s1 21 (.pW ret21v)], [e29_1 g, e29_9 g, e29_6 g]⟩ : St)) rfl (by kernel_rfl) Try.call41 (fun _ => by kernel_rfl) (link41 g _ h) (fun ret21v h => ?_)
    refine drq (by kernel_rfl) [9] (ob := (Ts 1 True)) (done' := [9, 8, 6, 3, 7, 5, 4, 2, 1, 0]) (st' := (⟨101, [sp 1 1, e29_22 g ret21v], [e29_1 g, e29_9 g, e29_6 g]⟩ : St)) (by kernel_rfl) (tsI 1 trivial) ?_
    refine awd_one (i := 10) (by kernel_rfl) ?_
    refine dsq (ob := True) (st' := (⟨101, [sp 1 1, sp 23 23], [e29_1 g, e29_9 g, e29_6 g, e29_12 g ret21v]⟩ : St)) rfl (by kernel_rfl) trivial ?_
    refine drq (by kernel_rfl) [11] (ob := (Ts 1 True)) (done' := [11, 10, 9, 8, 6, 3, 7, 5, 4, 2, 1, 0]) (st' := (⟨101, [sp 1 1, sp 3 23], [e29_1 g, e29_9 g, e29_6 g, e29_12 g ret21v]⟩ : St)) (by kernel_rfl) (tsI 1 trivial) ?_
    refine awd_done (by kernel_rfl) ?_
    exact rest15 ret21v h
   ·have h := h.2
    refine dcq (d := 21) [.d tG] (fun ret21v => (⟨101, [sp 1 1, e29_11 g, e29_58, sI 18 g.2.1, s1 21 (.pW ret21v)], [e29_1 g, e29_9 g]⟩ : St)) rfl (by kernel_rfl) Try.call41 (fun _ => by kernel_rfl) (link41 g _ h) (fun ret21v h => ?_)
    refine awd_one (i := 6) (by kernel_rfl) ?_
    obtain ⟨o1, h⟩ := h
    refine dsq (ob := room g.2.1) (st' := (⟨101, [sp 1 1, e29_11 g, e29_58, e29_59, s1 21 (.pW ret21v)], [e29_1 g, e29_9 g, e29_6 g]⟩ : St)) rfl (by kernel_rfl) o1 ?_
    refine drq (by kernel_rfl) [9] (ob := (Ts 1 True)) (done' := [9, 6, 8, 3, 7, 5, 4, 2, 1, 0]) (st' := (⟨101, [sp 1 1, e29_22 g ret21v], [e29_1 g, e29_9 g, e29_6 g]⟩ : St)) (by kernel_rfl) (tsI 1 trivial) ?_
    refine awd_one (i := 10) (by kernel_rfl) ?_
    refine dsq (ob := True) (st' := (⟨101, [sp 1 1, sp 23 23], [e29_1 g, e29_9 g, e29_6 g, e29_12 g ret21v]⟩ : St)) rfl (by kernel_rfl) trivial ?_
    refine drq (by kernel_rfl) [11] (ob := (Ts 1 True)) (done' := [11, 10, 9, 6, 8, 3, 7, 5, 4, 2, 1, 0]) (st' := (⟨101, [sp 1 1, sp 3 23], [e29_1 g, e29_9 g, e29_6 g, e29_12 g ret21v]⟩ : St)) (by kernel_rfl) (tsI 1 trivial) ?_
    refine awd_done (by kernel_rfl) ?_
    exact rest15 ret21v h
  ·have h := h.2.1
   obtain ⟨o1, h⟩ := h
   refine dsq (ob := room g.2.1) (st' := (⟨101, [sp 1 1, e29_11 g, sI 15 g.2.1, e29_59, e29_34 g], [e29_1 g, e29_6 g]⟩ : St)) rfl (by kernel_rfl) o1 ?_
   refine awd_two (i := 3) (j := 8) (by kernel_rfl) ?_ ?_
   ·have h := h.1
    obtain ⟨o1, h⟩ := h
    refine dsq (ob := room g.2.1) (st' := (⟨101, [sp 1 1, e29_11 g, e29_58, e29_59, e29_34 g], [e29_1 g, e29_9 g, e29_6 g]⟩ : St)) rfl (by kernel_rfl) o1 ?_
    refine awd_one (i := 8) (by kernel_rfl) ?_
    refine dcq (d := 21) [.d tG] (fun ret21v => (⟨101, [sp 1 1, e29_11 g, e29_58, e29_59, s1 21 (.pW ret21v)], [e29_1 g, e29_9 g, e29_6 g]⟩ : St)) rfl (by kernel_rfl) Try.call41 (fun _ => by kernel_rfl) (link41 g _ h) (fun ret21v h => ?_)
    refine drq (by kernel_rfl) [9] (ob := (Ts 1 True)) (done' := [9, 8, 3, 6, 7, 5, 4, 2, 1, 0]) (st' := (⟨101, [sp 1 1, e29_22 g ret21v], [e29_1 g, e29_9 g, e29_6 g]⟩ : St)) (by kernel_rfl) (tsI 1 trivial) ?_
    refine awd_one (i := 10) (by kernel_rfl) ?_
    refine dsq (ob := True) (st' := (⟨101, [sp 1 1, sp 23 23], [e29_1 g, e29_9 g, e29_6 g, e29_12 g ret21v]⟩ : St)) rfl (by kernel_rfl) trivial ?_
    refine drq (by kernel_rfl) [11] (ob := (Ts 1 True)) (done' := [11, 10, 9, 8, 3, 6, 7, 5, 4, 2, 1, 0]) (st' := (⟨101, [sp 1 1, sp 3 23], [e29_1 g, e29_9 g, e29_6 g, e29_12 g ret21v]⟩ : St)) (by kernel_rfl) (tsI 1 trivial) ?_
    refine awd_done (by kernel_rfl) ?_
    exact rest15 ret21v h
   ·have h := h.2
    refine dcq (d := 21) [.d tG] (fun ret21v => (⟨101, [sp 1 1, e29_11 g, sI 15 g.2.1, e29_59, s1 21 (.pW ret21v)], [e29_1 g, e29_6 g]⟩ : St)) rfl (by kernel_rfl) Try.call41 (fun _ => by kernel_rfl) (link41 g _ h) (fun ret21v h => ?_)
    refine awd_one (i := 3) (by kernel_rfl) ?_
    obtain ⟨o1, h⟩ := h
    refine dsq (ob := room g.2.1) (st' := (⟨101, [sp 1 1, e29_11 g, e29_58, e29_59, s1 21 (.pW ret21v)], [e29_1 g, e29_9 g, e29_6 g]⟩ : St)) rfl (by kernel_rfl) o1 ?_
    refine drq (by kernel_rfl) [9] (ob := (Ts 1 True)) (done' := [9, 3, 8, 6, 7, 5, 4, 2, 1, 0]) (st' := (⟨101, [sp 1 1, e29_22 g ret21v], [e29_1 g, e29_9 g, e29_6 g]⟩ : St)) (by kernel_rfl) (tsI 1 trivial) ?_
    refine awd_one (i := 10) (by kernel_rfl) ?_
    refine dsq (ob := True) (st' := (⟨101, [sp 1 1, sp 23 23], [e29_1 g, e29_9 g, e29_6 g, e29_12 g ret21v]⟩ : St)) rfl (by kernel_rfl) trivial ?_
    refine drq (by kernel_rfl) [11] (ob := (Ts 1 True)) (done' := [11, 10, 9, 3, 8, 6, 7, 5, 4, 2, 1, 0]) (st' := (⟨101, [sp 1 1, sp 3 23], [e29_1 g, e29_9 g, e29_6 g, e29_12 g ret21v]⟩ : St)) (by kernel_rfl) (tsI 1 trivial) ?_
    refine awd_done (by kernel_rfl) ?_
    exact rest15 ret21v h
  ·have h := h.2.2
   refine dcq (d := 21) [.d tG] (fun ret21v => (⟨101, [sp 1 1, e29_11 g, sI 15 g.2.1, sI 18 g.2.1, s1 21 (.pW ret21v)], [e29_1 g]⟩ : St)) rfl (by kernel_rfl) Try.call41 (fun _ => by kernel_rfl) (link41 g _ h) (fun ret21v h => ?_)
   refine awd_two (i := 3) (j := 6) (by kernel_rfl) ?_ ?_
   ·have h := h
    obtain ⟨o1, h⟩ := h
    refine dsq (ob := room g.2.1) (st' := (⟨101, [sp 1 1, e29_11 g, e29_58, sI 18 g.2.1, s1 21 (.pW ret21v)], [e29_1 g, e29_9 g]⟩ : St)) rfl (by kernel_rfl) o1 ?_
    refine awd_one (i := 6) (by kernel_rfl) ?_
    obtain ⟨o1, h⟩ := h
    refine dsq (ob := room g.2.1) (st' := (⟨101, [sp 1 1, e29_11 g, e29_58, e29_59, s1 21 (.pW ret21v)], [e29_1 g, e29_9 g, e29_6 g]⟩ : St)) rfl (by kernel_rfl) o1 ?_
    refine drq (by kernel_rfl) [9] (ob := (Ts 1 True)) (done' := [9, 6, 3, 8, 7, 5, 4, 2, 1, 0]) (st' := (⟨101, [sp 1 1, e29_22 g ret21v], [e29_1 g, e29_9 g, e29_6 g]⟩ : St)) (by kernel_rfl) (tsI 1 trivial) ?_
    refine awd_one (i := 10) (by kernel_rfl) ?_
    refine dsq (ob := True) (st' := (⟨101, [sp 1 1, sp 23 23], [e29_1 g, e29_9 g, e29_6 g, e29_12 g ret21v]⟩ : St)) rfl (by kernel_rfl) trivial ?_
    refine drq (by kernel_rfl) [11] (ob := (Ts 1 True)) (done' := [11, 10, 9, 6, 3, 8, 7, 5, 4, 2, 1, 0]) (st' := (⟨101, [sp 1 1, sp 3 23], [e29_1 g, e29_9 g, e29_6 g, e29_12 g ret21v]⟩ : St)) (by kernel_rfl) (tsI 1 trivial) ?_
    refine awd_done (by kernel_rfl) ?_
    exact rest15 ret21v h
   ·have h := h
    obtain ⟨o1, h⟩ := h
    refine dsq (ob := room g.2.1) (st' := (⟨101, [sp 1 1, e29_11 g, sI 15 g.2.1, e29_59, s1 21 (.pW ret21v)], [e29_1 g, e29_6 g]⟩ : St)) rfl (by kernel_rfl) o1 ?_
    refine awd_one (i := 3) (by kernel_rfl) ?_
    obtain ⟨o1, h⟩ := h
    refine dsq (ob := room g.2.1) (st' := (⟨101, [sp 1 1, e29_11 g, e29_58, e29_59, s1 21 (.pW ret21v)], [e29_1 g, e29_9 g, e29_6 g]⟩ : St)) rfl (by kernel_rfl) o1 ?_
    refine drq (by kernel_rfl) [9] (ob := (Ts 1 True)) (done' := [9, 3, 6, 8, 7, 5, 4, 2, 1, 0]) (st' := (⟨101, [sp 1 1, e29_22 g ret21v], [e29_1 g, e29_9 g, e29_6 g]⟩ : St)) (by kernel_rfl) (tsI 1 trivial) ?_
    refine awd_one (i := 10) (by kernel_rfl) ?_
    refine dsq (ob := True) (st' := (⟨101, [sp 1 1, sp 23 23], [e29_1 g, e29_9 g, e29_6 g, e29_12 g ret21v]⟩ : St)) rfl (by kernel_rfl) trivial ?_
    refine drq (by kernel_rfl) [11] (ob := (Ts 1 True)) (done' := [11, 10, 9, 3, 6, 8, 7, 5, 4, 2, 1, 0]) (st' := (⟨101, [sp 1 1, sp 3 23], [e29_1 g, e29_9 g, e29_6 g, e29_12 g ret21v]⟩ : St)) (by kernel_rfl) (tsI 1 trivial) ?_
    refine awd_done (by kernel_rfl) ?_
    exact rest15 ret21v h
end Dec
