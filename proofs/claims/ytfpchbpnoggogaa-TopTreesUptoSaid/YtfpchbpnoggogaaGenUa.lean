/-
  Printed by dec2.py: of each function its plain demand, and that the demand gives the contract.
-/
import Derived.Test.YtfpchbpnoggogaaProg
import Derived.Test.YtfpchbpnoggogaaDecCp
set_option linter.unusedVariables false
set_option linter.unusedSimpArgs false
set_option maxRecDepth 100000
namespace Dec
open Go Go.RowKit Go.Proofs
-- coppicer/grammar.Check$1
def VC79 (n : Int) (low : Int) (high : Int) (K : Bool → Prop) : Prop :=
  K ((decide (low ≤ n)) && (decide (n ≤ high)))
set_option maxHeartbeats 4000000 in
theorem link79 (n : Int) (low : Int) (high : Int) (K : Bool → Prop) (h : VC79 n low high K) : ACalls Try.prog 79 [toV1 tI n, toV1 tI low, toV1 tI high] (fun res => ∃ y, res = (fun y => [toV1 .bool y]) y ∧ K y) := by
 refine acalls_of_aw [.bool] [.t 6] Try.func79 rfl rfl rfl ?_
 unfold VC79 at h
 refine sr ?_
 refine rqT 1 ⟨15, [sI 0 n, sI 1 low, sI 2 high], []⟩ (by kernel_rfl) ?_
 refine nsr ?_
 refine rq 9 (ob := (Ts 4 (Ti 3 ((decide (low ≤ n)) = true → True) (Ts 2 True)))) (st' := (⟨15, [sB 6 ((decide (low ≤ n)) && (decide (n ≤ high)))], []⟩ : St)) (by kernel_rfl) (tsI 4 (tiI 3 (fun _ => trivial) (tsI 2 trivial))) ?_
 refine nn ?_
 refine aw_ret ?_
 exact retQ_r (ob := Ts 1 True) _ (by kernel_rfl) (tsI 1 trivial) h
abbrev e55_0 (sv : LR) : Nat × Path × AV := s1 0 (.p (.sl tR) sv)
abbrev e55_1 (sv : LR) : Nat × Path × AV := sI 7 (sv.length : Int)
-- slices.IndexFunc[[]coppicer/api.Rule,coppicer/api.Rule]
def VC55_k1 (K : Int → Prop) : Prop :=
  K (-1 : Int)
def VC55_l1 (sv : LR) (F1 : (Int × LI) → (Bool → Prop) → Prop) (K : Int → Prop) (v8 : Int) (X1 : Int → Prop) : Prop :=
  (((decide (v8 < (sv.length : Int))) = true → (inIdx v8 sv.length ∧ F1 (sv.getD (v8).toNat ((0 : Int), ([] : LI))) (fun (ret16v : Bool) => ((ret16v = true → K v8) ∧ (ret16v = false → (InR (v8 + (1 : Int)) ∧ X1 (v8 + (1 : Int)))))))) ∧ ((decide (v8 < (sv.length : Int))) = false → VC55_k1 K))
def VC55 (sv : LR) (F1 : (Int × LI) → (Bool → Prop) → Prop) (K : Int → Prop) : Prop :=
  Loop (σ := Int) (fun s X => VC55_l1 sv F1 K s X) (0 : Int)
set_option maxHeartbeats 4000000 in
theorem link55 (sv : LR) (fv1 : FuncId) (cv1 : List Dat) (F1 : (Int × LI) → (Bool → Prop) → Prop) (hF1 : FnIs Try.prog fv1 cv1 (fun (x : (Int × LI)) => [toV1 tR x]) (fun (y : Bool) => [toV1 .bool y]) F1) (K : Int → Prop) (h : VC55 sv F1 K) : ACalls Try.prog 55 [toV1 (.sl tR) sv, .c (.fn fv1 cv1)] (fun res => ∃ y, res = (fun y => [toV1 tI y]) y ∧ K y) := by
 refine acalls_of_aw [tI] [.t 4] Try.func55 rfl rfl rfl ?_
 unfold VC55 at h
 refine srn 1 ⟨19, [e55_0 sv, s1 1 (.fn fv1 cv1)], []⟩ (by kernel_rfl) rfl ?_
 refine aw_seq ?_
 refine srn 3 ⟨19, [e55_0 sv, s1 1 (.fn fv1 cv1), e55_1 sv, sI 8 (0 : Int)], []⟩ (by kernel_rfl) rfl ?_
 refine withJoin (σ := Unit) (fun s => (⟨19, [], []⟩ : St)) (fun s => VC55_k1 K) (fun s h => ?_) (fun rest1 => ?_)
 ·have h : VC55_k1 K := h
  unfold VC55_k1 at h
  refine thenQ_n ?_
  refine srn 1 ⟨19, [sI 4 (-1 : Int)], []⟩ (by kernel_rfl) rfl ?_
  refine aw_ret ?_
  exact retQ_r (ob := Ts 1 True) _ (by kernel_rfl) (tsI 1 trivial) h
 ·refine aw_block ?_
  refine aw_loop (σ := Int) (fun s => (⟨19, [e55_0 sv, s1 1 (.fn fv1 cv1), e55_1 sv, sI 8 s], []⟩ : St)) (fun s X => VC55_l1 sv F1 K s X) (s0 := (0 : Int)) (fun v8 X1 h => ?_) h
  have h : VC55_l1 sv F1 K v8 X1 := h
  unfold VC55_l1 at h
  refine srn 1 ⟨19, [e55_0 sv, s1 1 (.fn fv1 cv1), e55_1 sv, sI 8 v8, sB 9 (decide (v8 < (sv.length : Int)))], []⟩ (by kernel_rfl) rfl ?_
  refine aw_seq ?_
  refine aw_cond (b := (decide (v8 < (sv.length : Int)))) (by kernel_rfl) (fun hb => ?_) (fun hb => ?_)
  ·have h := h.1 hb
   refine aw_skip ?_
   refine thenQ_n ?_
   refine aw_seq ?_
   refine aw_block ?_
   refine sr ?_
   refine rqT 2 ⟨19, [e55_0 sv, s1 1 (.fn fv1 cv1), sI 5 v8, e55_1 sv, sI 8 v8], []⟩ (by kernel_rfl) ?_
   refine nsr ?_
   obtain ⟨o1, h⟩ := h
   refine rq 5 (ob := (Ts 3 (inIdx v8 sv.length ∧ Ts 1 True))) (st' := (⟨19, [e55_0 sv, s1 1 (.fn fv1 cv1), sI 5 v8, e55_1 sv, sI 8 v8, s1 11 (.fn fv1 cv1), sA 15 [.pI ((sv.getD (v8).toNat ((0 : Int), ([] : LI))).1), .pS ((sv.getD (v8).toNat ((0 : Int), ([] : LI))).2)]], []⟩ : St)) (by kernel_rfl) (tsI 3 ⟨o1, tsI 1 trivial⟩) ?_
   refine lcq (d := 16) [.d tR] (fun ret16v => (⟨19, [e55_0 sv, s1 1 (.fn fv1 cv1), sI 5 v8, e55_1 sv, sI 8 v8, sB 16 ret16v], []⟩ : St)) (by kernel_rfl) hF1.1 (fun _ => by kernel_rfl) (hF1.2 (sv.getD (v8).toNat ((0 : Int), ([] : LI))) _ h) (fun ret16v h => ?_)
   refine nn ?_
   refine aw_cond (b := ret16v) (by kernel_rfl) (fun hb => ?_) (fun hb => ?_)
   ·have h := h.1 hb
    refine srn 2 ⟨19, [sI 4 v8], []⟩ (by kernel_rfl) rfl ?_
    refine aw_ret ?_
    refine blockQ_r ?_
    refine thenQ_r ?_
    refine thenQ_r ?_
    refine blockQ_r ?_
    refine thenQ_r ?_
    exact retQ_r (ob := Ts 1 True) _ (by kernel_rfl) (tsI 1 trivial) h
   ·have h := h.2 hb
    refine aw_skip ?_
    refine blockQ_n ?_
    refine thenQ_n ?_
    refine aw_region ?_
    obtain ⟨o1, h⟩ := h
    refine rq 2 (ob := (InR (v8 + (1 : Int)) ∧ Ts 1 True)) (st' := (⟨19, [e55_0 sv, s1 1 (.fn fv1 cv1), e55_1 sv, sI 8 (v8 + (1 : Int))], []⟩ : St)) (by kernel_rfl) (⟨o1, tsI 1 trivial⟩) ?_
    refine awl_nil ?_
    exact thenQ_n ⟨(v8 + (1 : Int)), rfl, h⟩
  ·have h := h.2 hb
   refine cpr (st' := (⟨19, [], []⟩ : St)) (by kernel_rfl) ?_
   refine aw_exit ?_
   refine thenQ_x ?_
   refine thenQ_x ?_
   refine blockQ_hit ?_
   exact rest1 () h
-- slices.ContainsFunc[[]coppicer/api.Rule,coppicer/api.Rule]
def VC77 (sv : LR) (F1 : (Int × LI) → (Bool → Prop) → Prop) (K : Bool → Prop) : Prop :=
  VC55 sv F1 (fun (ret7v : Int) => K (decide ((0 : Int) ≤ ret7v)))
set_option maxHeartbeats 4000000 in
theorem link77 (sv : LR) (fv1 : FuncId) (cv1 : List Dat) (F1 : (Int × LI) → (Bool → Prop) → Prop) (hF1 : FnIs Try.prog fv1 cv1 (fun (x : (Int × LI)) => [toV1 tR x]) (fun (y : Bool) => [toV1 .bool y]) F1) (K : Bool → Prop) (h : VC77 sv F1 K) : ACalls Try.prog 77 [toV1 (.sl tR) sv, .c (.fn fv1 cv1)] (fun res => ∃ y, res = (fun y => [toV1 .bool y]) y ∧ K y) := by
 refine acalls_of_aw [.bool] [.t 4] Try.func77 rfl rfl rfl ?_
 unfold VC77 at h
 refine sr ?_
 refine rqT 1 ⟨9, [s1 0 (.p (.sl tR) sv), s1 1 (.fn fv1 cv1)], []⟩ (by kernel_rfl) ?_
 refine nsr ?_
 refine rqT 2 ⟨9, [s1 5 (.p (.sl tR) sv), s1 6 (.fn fv1 cv1)], []⟩ (by kernel_rfl) ?_
 refine lcq (d := 7) [.d (.sl tR), .fn] (fun ret7v => (⟨9, [sI 7 ret7v], []⟩ : St)) (by kernel_rfl) Try.call55 (fun _ => by kernel_rfl) (link55 sv fv1 cv1 F1 hF1 _ h) (fun ret7v h => ?_)
 refine rqT 2 ⟨9, [sB 4 (decide ((0 : Int) ≤ ret7v))], []⟩ (by kernel_rfl) ?_
 refine nn ?_
 refine aw_ret ?_
 exact retQ_r (ob := Ts 1 True) _ (by kernel_rfl) (tsI 1 trivial) h
-- coppicer/grammar.Check$2
def VC80 (rv : (Int × LI)) (K : Bool → Prop) : Prop :=
  K (decide ((4 : Int) < (rv.2.length : Int)))
set_option maxHeartbeats 4000000 in
theorem link80 (rv : (Int × LI)) (K : Bool → Prop) (h : VC80 rv K) : ACalls Try.prog 80 [toV1 tR rv] (fun res => ∃ y, res = (fun y => [toV1 .bool y]) y ∧ K y) := by
 refine acalls_of_aw [.bool] [.t 2] Try.func80 rfl rfl rfl ?_
 unfold VC80 at h
 refine sr ?_
 refine rqT 2 ⟨7, [sp 1 1], [hB 1 [.pI rv.1, .pS rv.2]]⟩ (by kernel_rfl) ?_
 refine nsr ?_
 refine rqT 5 ⟨7, [sB 2 (decide ((4 : Int) < (rv.2.length : Int)))], []⟩ (by kernel_rfl) ?_
 refine nn ?_
 refine aw_ret ?_
 exact retQ_r (ob := Ts 1 True) _ (by kernel_rfl) (tsI 1 trivial) h
-- coppicer/grammar.IsSigns$1
def VC107 (sv : Int) (a1 : TG) (K : Bool → Prop) : Prop :=
  (((decide (sv < (0 : Int))) = false → InR (a1.1 + a1.2.1)) ∧ K ((decide (sv < (0 : Int))) || (decide ((a1.1 + a1.2.1) ≤ sv))))
set_option maxHeartbeats 4000000 in
theorem link107 (sv : Int) (a1 : TG) (K : Bool → Prop) (h : VC107 sv a1 K) : ACalls Try.prog 107 [toV1 tI sv, .c (.ad tG a1)] (fun res => ∃ y, res = (fun y => [toV1 .bool y]) y ∧ K y) := by
 refine acalls_of_aw [.bool] [.t 3] Try.func107 rfl rfl rfl ?_
 unfold VC107 at h
 refine sr ?_
 refine rqT 1 ⟨15, [sI 0 sv, s1 1 (.ad tG a1)], []⟩ (by kernel_rfl) ?_
 refine nsr ?_
 obtain ⟨o1, h⟩ := h
 refine rq 12 (ob := (Ts 3 (Ti 5 ((decide (sv < (0 : Int))) = false → True) (((decide (sv < (0 : Int))) = false → InR (a1.1 + a1.2.1)) ∧ ((decide (sv < (0 : Int))) = false → True) ∧ Ts 2 True)))) (st' := (⟨15, [sB 3 ((decide (sv < (0 : Int))) || (decide ((a1.1 + a1.2.1) ≤ sv)))], []⟩ : St)) (by kernel_rfl) (tsI 3 (tiI 5 (fun _ => trivial) (⟨o1, ⟨(fun _ => trivial), tsI 2 trivial⟩⟩))) ?_
 refine nn ?_
 refine aw_ret ?_
 exact retQ_r (ob := Ts 1 True) _ (by kernel_rfl) (tsI 1 trivial) h
abbrev e88_0 (sv : LI) : Nat × Path × AV := sI 7 (sv.length : Int)
-- slices.IndexFunc[[]int,int]
def VC88_k1 (K : Int → Prop) : Prop :=
  K (-1 : Int)
def VC88_l1 (sv : LI) (F1 : Int → (Bool → Prop) → Prop) (K : Int → Prop) (v8 : Int) (X1 : Int → Prop) : Prop :=
  (((decide (v8 < (sv.length : Int))) = true → (inIdx v8 sv.length ∧ F1 (sv.getD (v8).toNat (0 : Int)) (fun (ret16v : Bool) => ((ret16v = true → K v8) ∧ (ret16v = false → (InR (v8 + (1 : Int)) ∧ X1 (v8 + (1 : Int)))))))) ∧ ((decide (v8 < (sv.length : Int))) = false → VC88_k1 K))
def VC88 (sv : LI) (F1 : Int → (Bool → Prop) → Prop) (K : Int → Prop) : Prop :=
  Loop (σ := Int) (fun s X => VC88_l1 sv F1 K s X) (0 : Int)
set_option maxHeartbeats 4000000 in
theorem link88 (sv : LI) (fv1 : FuncId) (cv1 : List Dat) (F1 : Int → (Bool → Prop) → Prop) (hF1 : FnIs Try.prog fv1 cv1 (fun (x : Int) => [toV1 tI x]) (fun (y : Bool) => [toV1 .bool y]) F1) (K : Int → Prop) (h : VC88 sv F1 K) : ACalls Try.prog 88 [toV1 (.sl tI) sv, .c (.fn fv1 cv1)] (fun res => ∃ y, res = (fun y => [toV1 tI y]) y ∧ K y) := by
 refine acalls_of_aw [tI] [.t 4] Try.func88 rfl rfl rfl ?_
 unfold VC88 at h
 refine srn 1 ⟨19, [s1 0 (.pS sv), s1 1 (.fn fv1 cv1)], []⟩ (by kernel_rfl) rfl ?_
 refine aw_seq ?_
 refine srn 3 ⟨19, [s1 0 (.pS sv), s1 1 (.fn fv1 cv1), e88_0 sv, sI 8 (0 : Int)], []⟩ (by kernel_rfl) rfl ?_
 refine withJoin (σ := Unit) (fun s => (⟨19, [], []⟩ : St)) (fun s => VC88_k1 K) (fun s h => ?_) (fun rest1 => ?_)
 ·have h : VC88_k1 K := h
  unfold VC88_k1 at h
  refine thenQ_n ?_
  refine srn 1 ⟨19, [sI 4 (-1 : Int)], []⟩ (by kernel_rfl) rfl ?_
  refine aw_ret ?_
  exact retQ_r (ob := Ts 1 True) _ (by kernel_rfl) (tsI 1 trivial) h
 ·refine aw_block ?_
  refine aw_loop (σ := Int) (fun s => (⟨19, [s1 0 (.pS sv), s1 1 (.fn fv1 cv1), e88_0 sv, sI 8 s], []⟩ : St)) (fun s X => VC88_l1 sv F1 K s X) (s0 := (0 : Int)) (fun v8 X1 h => ?_) h
  have h : VC88_l1 sv F1 K v8 X1 := h
  unfold VC88_l1 at h
  refine srn 1 ⟨19, [s1 0 (.pS sv), s1 1 (.fn fv1 cv1), e88_0 sv, sI 8 v8, sB 9 (decide (v8 < (sv.length : Int)))], []⟩ (by kernel_rfl) rfl ?_
  refine aw_seq ?_
  refine aw_cond (b := (decide (v8 < (sv.length : Int)))) (by kernel_rfl) (fun hb => ?_) (fun hb => ?_)
  ·have h := h.1 hb
   refine aw_skip ?_
   refine thenQ_n ?_
   refine aw_seq ?_
   refine aw_block ?_
   refine sr ?_
   refine rqT 2 ⟨19, [s1 0 (.pS sv), s1 1 (.fn fv1 cv1), sI 5 v8, e88_0 sv, sI 8 v8], []⟩ (by kernel_rfl) ?_
   refine nsr ?_
   obtain ⟨o1, h⟩ := h
   refine rq 5 (ob := (Ts 3 (inIdx v8 sv.length ∧ Ts 1 True))) (st' := (⟨19, [s1 0 (.pS sv), s1 1 (.fn fv1 cv1), sI 5 v8, e88_0 sv, sI 8 v8, s1 11 (.fn fv1 cv1), sI 15 (sv.getD (v8).toNat (0 : Int))], []⟩ : St)) (by kernel_rfl) (tsI 3 ⟨o1, tsI 1 trivial⟩) ?_
   refine lcq (d := 16) [.d tI] (fun ret16v => (⟨19, [s1 0 (.pS sv), s1 1 (.fn fv1 cv1), sI 5 v8, e88_0 sv, sI 8 v8, sB 16 ret16v], []⟩ : St)) (by kernel_rfl) hF1.1 (fun _ => by kernel_rfl) (hF1.2 (sv.getD (v8).toNat (0 : Int)) _ h) (fun ret16v h => ?_)
   refine nn ?_
   refine aw_cond (b := ret16v) (by kernel_rfl) (fun hb => ?_) (fun hb => ?_)
   ·have h := h.1 hb
    refine srn 2 ⟨19, [sI 4 v8], []⟩ (by kernel_rfl) rfl ?_
    refine aw_ret ?_
    refine blockQ_r ?_
    refine thenQ_r ?_
    refine thenQ_r ?_
    refine blockQ_r ?_
    refine thenQ_r ?_
    exact retQ_r (ob := Ts 1 True) _ (by kernel_rfl) (tsI 1 trivial) h
   ·have h := h.2 hb
    refine aw_skip ?_
    refine blockQ_n ?_
    refine thenQ_n ?_
    refine aw_region ?_
    obtain ⟨o1, h⟩ := h
    refine rq 2 (ob := (InR (v8 + (1 : Int)) ∧ Ts 1 True)) (st' := (⟨19, [s1 0 (.pS sv), s1 1 (.fn fv1 cv1), e88_0 sv, sI 8 (v8 + (1 : Int))], []⟩ : St)) (by kernel_rfl) (⟨o1, tsI 1 trivial⟩) ?_
    refine awl_nil ?_
    exact thenQ_n ⟨(v8 + (1 : Int)), rfl, h⟩
  ·have h := h.2 hb
   refine cpr (st' := (⟨19, [], []⟩ : St)) (by kernel_rfl) ?_
   refine aw_exit ?_
   refine thenQ_x ?_
   refine thenQ_x ?_
   refine blockQ_hit ?_
   exact rest1 () h
-- slices.ContainsFunc[[]int,int]
def VC59 (sv : LI) (F1 : Int → (Bool → Prop) → Prop) (K : Bool → Prop) : Prop :=
  VC88 sv F1 (fun (ret7v : Int) => K (decide ((0 : Int) ≤ ret7v)))
set_option maxHeartbeats 4000000 in
theorem link59 (sv : LI) (fv1 : FuncId) (cv1 : List Dat) (F1 : Int → (Bool → Prop) → Prop) (hF1 : FnIs Try.prog fv1 cv1 (fun (x : Int) => [toV1 tI x]) (fun (y : Bool) => [toV1 .bool y]) F1) (K : Bool → Prop) (h : VC59 sv F1 K) : ACalls Try.prog 59 [toV1 (.sl tI) sv, .c (.fn fv1 cv1)] (fun res => ∃ y, res = (fun y => [toV1 .bool y]) y ∧ K y) := by
 refine acalls_of_aw [.bool] [.t 4] Try.func59 rfl rfl rfl ?_
 unfold VC59 at h
 refine sr ?_
 refine rqT 1 ⟨9, [s1 0 (.pS sv), s1 1 (.fn fv1 cv1)], []⟩ (by kernel_rfl) ?_
 refine nsr ?_
 refine rqT 2 ⟨9, [s1 5 (.pS sv), s1 6 (.fn fv1 cv1)], []⟩ (by kernel_rfl) ?_
 refine lcq (d := 7) [.d (.sl tI), .fn] (fun ret7v => (⟨9, [sI 7 ret7v], []⟩ : St)) (by kernel_rfl) Try.call88 (fun _ => by kernel_rfl) (link88 sv fv1 cv1 F1 hF1 _ h) (fun ret7v h => ?_)
 refine rqT 2 ⟨9, [sB 4 (decide ((0 : Int) ≤ ret7v))], []⟩ (by kernel_rfl) ?_
 refine nn ?_
 refine aw_ret ?_
 exact retQ_r (ob := Ts 1 True) _ (by kernel_rfl) (tsI 1 trivial) h
abbrev e81_0 (g : TG) : Nat × Path × Con := hB 2 [.pI g.1, .pI g.2.1, .pI g.2.2.1, .p (.sl tR) g.2.2.2]
-- coppicer/grammar.IsSigns
def VC81 (g : TG) (l : LI) (K : Bool → Prop) : Prop :=
  VC59 l (fun (x : Int) (K : Bool → Prop) => VC107 x g K) (fun (ret7v : Bool) => K (!ret7v))
set_option maxHeartbeats 4000000 in
theorem link81 (g : TG) (l : LI) (K : Bool → Prop) (h : VC81 g l K) : ACalls Try.prog 81 [toV1 tG g, toV1 (.sl tI) l] (fun res => ∃ y, res = (fun y => [toV1 .bool y]) y ∧ K y) := by
 refine acalls_of_aw [.bool] [.t 4] Try.func81 rfl rfl rfl ?_
 unfold VC81 at h
 refine sr ?_
 refine rqT 2 ⟨9, [s1 1 (.pS l), sp 2 2], [e81_0 g]⟩ (by kernel_rfl) ?_
 refine nsr ?_
 refine rqT 1 ⟨9, [sp 2 2, s1 5 (.pS l)], [e81_0 g]⟩ (by kernel_rfl) ?_
 refine awl_conv [.freezeB 2 tG] (st' := (⟨9, [s1 2 (.ad tG g), s1 5 (.pS l)], []⟩ : St)) (by kernel_rfl) ?_
 refine rqT 1 ⟨9, [s1 5 (.pS l), s1 6 (.fn 107 [(⟨tG, g⟩ : Dat)])], []⟩ (by kernel_rfl) ?_
 refine lcq (d := 7) [.d (.sl tI), .fn] (fun ret7v => (⟨9, [sB 7 ret7v], []⟩ : St)) (by kernel_rfl) Try.call59 (fun _ => by kernel_rfl) (link59 l 107 [(⟨tG, g⟩ : Dat)] (fun (x : Int) (K : Bool → Prop) => VC107 x g K) ⟨Try.call107, fun x K h => link107 x g K h⟩ _ h) (fun ret7v h => ?_)
 refine rqT 2 ⟨9, [sB 4 (!ret7v)], []⟩ (by kernel_rfl) ?_
 refine nn ?_
 refine aw_ret ?_
 exact retQ_r (ob := Ts 1 True) _ (by kernel_rfl) (tsI 1 trivial) h
abbrev e51_0 (g : TG) : Nat × Path × Con := hB 1 [.pI g.1, .pI g.2.1, .pI g.2.2.1, .p (.sl tR) g.2.2.2]
abbrev e51_1 (g : TG) : Nat × Path × AV := s1 36 (.p (.sl tR) g.2.2.2)
abbrev e51_2 (g : TG) (v38 : Int) : Nat × Path × Con := hB 5 [.pI ((g.2.2.2.getD (v38).toNat ((0 : Int), ([] : LI))).1), .pS ((g.2.2.2.getD (v38).toNat ((0 : Int), ([] : LI))).2)]
abbrev e51_3 : Nat × Path × AV := s1 3 (.fn 79 [])
abbrev e51_4 (g : TG) : Nat × Path × AV := sI 37 (g.2.2.2.length : Int)
-- coppicer/grammar.Check
def VC51_k1 (K : Int → Prop) : Prop :=
  K (0 : Int)
def VC51_l1 (g : TG) (K : Int → Prop) (v38 : Int) (X1 : Int → Prop) : Prop :=
  (((decide (v38 < (g.2.2.2.length : Int))) = true → (inIdx v38 g.2.2.2.length ∧ (InR (g.2.1 - (1 : Int)) ∧ VC79 ((g.2.2.2.getD (v38).toNat ((0 : Int), ([] : LI))).1) (0 : Int) (g.2.1 - (1 : Int)) (fun (ret48v : Bool) => gcall (α := Bool) (!(!ret48v)) (VC81 g ((g.2.2.2.getD (v38).toNat ((0 : Int), ([] : LI))).2)) false (fun (ret54v : Bool) => ((((!ret48v) || (!ret54v)) = true → K (2 : Int)) ∧ (((!ret48v) || (!ret54v)) = false → (InR (v38 + (1 : Int)) ∧ X1 (v38 + (1 : Int)))))))))) ∧ ((decide (v38 < (g.2.2.2.length : Int))) = false → VC51_k1 K))
def VC51 (g : TG) (K : Int → Prop) : Prop :=
  VC79 g.1 (1 : Int) (3 : Int) (fun (ret9v : Bool) => gcall (α := Bool) (!(!ret9v)) (VC79 g.2.1 (1 : Int) (5 : Int)) false (fun (ret15v : Bool) => (((((!ret9v) || (!ret15v)) || (decide ((10 : Int) < (g.2.2.2.length : Int)))) = true → K (1 : Int)) ∧ ((((!ret9v) || (!ret15v)) || (decide ((10 : Int) < (g.2.2.2.length : Int)))) = false → VC77 g.2.2.2 (fun (x : (Int × LI)) (K : Bool → Prop) => VC80 x K) (fun (ret26v : Bool) => ((ret26v = true → K (1 : Int)) ∧ (ret26v = false → (InR (g.2.1 - (1 : Int)) ∧ VC79 g.2.2.1 (0 : Int) (g.2.1 - (1 : Int)) (fun (ret33v : Bool) => (((!ret33v) = true → K (2 : Int)) ∧ ((!ret33v) = false → Loop (σ := Int) (fun s X => VC51_l1 g K s X) (0 : Int))))))))))))
set_option maxHeartbeats 4000000 in
theorem link51 (g : TG) (K : Int → Prop) (h : VC51 g K) : ACalls Try.prog 51 [toV1 tG g] (fun res => ∃ y, res = (fun y => [toV1 tI y]) y ∧ K y) := by
 refine acalls_of_aw [tI] [.t 2] Try.func51 rfl rfl rfl ?_
 unfold VC51 at h
 refine sr ?_
 refine rqT 2 ⟨58, [sp 1 1], [e51_0 g]⟩ (by kernel_rfl) ?_
 refine nsr ?_
 refine rqT 1 ⟨58, [sp 1 1, e51_3], [e51_0 g]⟩ (by kernel_rfl) ?_
 refine nn ?_
 refine aw_seq ?_
 refine sr ?_
 refine rqT 3 ⟨58, [sp 1 1, e51_3, s1 6 (.fn 79 []), sI 8 g.1], [e51_0 g]⟩ (by kernel_rfl) ?_
 refine lcq (d := 9) [.d tI, .d tI, .d tI] (fun ret9v => (⟨58, [sp 1 1, e51_3, sB 9 ret9v], [e51_0 g]⟩ : St)) (by kernel_rfl) Try.call79 (fun _ => by kernel_rfl) (link79 g.1 (1 : Int) (3 : Int) _ h) (fun ret9v h => ?_)
 refine rq 5 (ob := (Ts 2 (Ti 3 ((!ret9v) = false → True) True))) (st' := (⟨58, [sp 1 1, e51_3, sB 11 (!ret9v), (12, [(11, false)], .v (.c (.fn 79 []))), (14, [(11, false)], .v (.c (.pI g.2.1)))], [e51_0 g]⟩ : St)) (by kernel_rfl) (tsI 2 (tiI 3 (fun _ => trivial) trivial)) ?_
 refine awl_callk (p := [(11, false)]) (l := [toV1 tI g.2.1, toV1 tI (1 : Int), toV1 tI (5 : Int)]) (cl := []) false [.d tI, .d tI, .d tI] [1, 3, 11, 15] [1] (fun (ret15v : Bool) => (((((!ret9v) || (!ret15v)) || (decide ((10 : Int) < (g.2.2.2.length : Int)))) = true → K (1 : Int)) ∧ ((((!ret9v) || (!ret15v)) || (decide ((10 : Int) < (g.2.2.2.length : Int)))) = false → VC77 g.2.2.2 (fun (x : (Int × LI)) (K : Bool → Prop) => VC80 x K) (fun (ret26v : Bool) => ((ret26v = true → K (1 : Int)) ∧ (ret26v = false → (InR (g.2.1 - (1 : Int)) ∧ VC79 g.2.2.1 (0 : Int) (g.2.1 - (1 : Int)) (fun (ret33v : Bool) => (((!ret33v) = true → K (2 : Int)) ∧ ((!ret33v) = false → Loop (σ := Int) (fun s X => VC51_l1 g K s X) (0 : Int))))))))))) (fun ret15v => [toV1 .bool ret15v]) (fun ret15v => (⟨58, [sp 1 1, e51_3, sB 11 (!ret9v), (15, [(11, false)], .v (.c (.pB ret15v)))], [e51_0 g]⟩ : St)) (by kernel_rfl) rfl (by kernel_rfl) rfl (by kernel_rfl) Try.call79 (by kernel_rfl) (fun ret15v => by kernel_rfl) (fun e => by cases e) (fun hg => link79 g.2.1 (1 : Int) (5 : Int) _ (by have := gcall_T h (show (!(!ret9v)) = true from hg); exact this)) (fun hg => ⟨false, by have := gcall_F h (show (!(!ret9v)) = false from hg); exact this⟩) (fun ret15v h => ?_)
 refine rq 8 (ob := (((!ret9v) = false → True) ∧ Ts 2 (Ti 4 (((!ret9v) || (!ret15v)) = false → True) (Ts 1 True)))) (st' := (⟨58, [sp 1 1, e51_3, sB 23 (((!ret9v) || (!ret15v)) || (decide ((10 : Int) < (g.2.2.2.length : Int))))], [e51_0 g]⟩ : St)) (by kernel_rfl) (⟨(fun _ => trivial), tsI 2 (tiI 4 (fun _ => trivial) (tsI 1 trivial))⟩) ?_
 refine nn ?_
 refine aw_cond (b := (((!ret9v) || (!ret15v)) || (decide ((10 : Int) < (g.2.2.2.length : Int))))) (by kernel_rfl) (fun hb => ?_) (fun hb => ?_)
 ·have h := h.1 hb
  refine srn 1 ⟨58, [sI 2 (1 : Int)], []⟩ (by kernel_rfl) rfl ?_
  refine aw_ret ?_
  refine thenQ_r ?_
  exact retQ_r (ob := Ts 1 True) _ (by kernel_rfl) (tsI 1 trivial) h
 ·have h := h.2 hb
  refine aw_skip ?_
  refine thenQ_n ?_
  refine aw_seq ?_
  refine sr ?_
  refine rqT 2 ⟨58, [sp 1 1, e51_3, s1 25 (.p (.sl tR) g.2.2.2)], [e51_0 g]⟩ (by kernel_rfl) ?_
  refine lcq (d := 26) [.d (.sl tR), .fn] (fun ret26v => (⟨58, [sp 1 1, e51_3, sB 26 ret26v], [e51_0 g]⟩ : St)) (by kernel_rfl) Try.call77 (fun _ => by kernel_rfl) (link77 g.2.2.2 80 [] (fun (x : (Int × LI)) (K : Bool → Prop) => VC80 x K) ⟨Try.call80, fun x K h => link80 x K h⟩ _ h) (fun ret26v h => ?_)
  refine nn ?_
  refine aw_cond (b := ret26v) (by kernel_rfl) (fun hb => ?_) (fun hb => ?_)
  ·have h := h.1 hb
   refine srn 1 ⟨58, [sI 2 (1 : Int)], []⟩ (by kernel_rfl) rfl ?_
   refine aw_ret ?_
   refine thenQ_r ?_
   exact retQ_r (ob := Ts 1 True) _ (by kernel_rfl) (tsI 1 trivial) h
  ·have h := h.2 hb
   refine aw_skip ?_
   refine thenQ_n ?_
   refine aw_seq ?_
   refine sr ?_
   obtain ⟨o1, h⟩ := h
   refine rq 6 (ob := (Ts 5 (InR (g.2.1 - (1 : Int)) ∧ True))) (st' := (⟨58, [sp 1 1, e51_3, s1 27 (.fn 79 []), sI 29 g.2.2.1, sI 32 (g.2.1 - (1 : Int))], [e51_0 g]⟩ : St)) (by kernel_rfl) (tsI 5 ⟨o1, trivial⟩) ?_
   refine lcq (d := 33) [.d tI, .d tI, .d tI] (fun ret33v => (⟨58, [sp 1 1, e51_3, sB 33 ret33v], [e51_0 g]⟩ : St)) (by kernel_rfl) Try.call79 (fun _ => by kernel_rfl) (link79 g.2.2.1 (0 : Int) (g.2.1 - (1 : Int)) _ h) (fun ret33v h => ?_)
   refine rqT 1 ⟨58, [sp 1 1, e51_3, sB 34 (!ret33v)], [e51_0 g]⟩ (by kernel_rfl) ?_
   refine nn ?_
   refine aw_cond (b := (!ret33v)) (by kernel_rfl) (fun hb => ?_) (fun hb => ?_)
   ·have h := h.1 hb
    refine srn 1 ⟨58, [sI 2 (2 : Int)], []⟩ (by kernel_rfl) rfl ?_
    refine aw_ret ?_
    refine thenQ_r ?_
    exact retQ_r (ob := Ts 1 True) _ (by kernel_rfl) (tsI 1 trivial) h
   ·have h := h.2 hb
    refine aw_skip ?_
    refine thenQ_n ?_
    refine aw_seq ?_
    refine srn 4 ⟨58, [sp 1 1, e51_3, e51_1 g, e51_4 g, sI 38 (0 : Int)], [e51_0 g]⟩ (by kernel_rfl) rfl ?_
    refine withJoin (σ := Unit) (fun s => (⟨58, [], []⟩ : St)) (fun s => VC51_k1 K) (fun s h => ?_) (fun rest1 => ?_)
    ·have h : VC51_k1 K := h
     unfold VC51_k1 at h
     refine thenQ_n ?_
     refine srn 1 ⟨58, [sI 2 (0 : Int)], []⟩ (by kernel_rfl) rfl ?_
     refine aw_ret ?_
     exact retQ_r (ob := Ts 1 True) _ (by kernel_rfl) (tsI 1 trivial) h
    ·refine aw_block ?_
     refine aw_loop (σ := Int) (fun s => (⟨58, [sp 1 1, e51_3, e51_1 g, e51_4 g, sI 38 s], [e51_0 g]⟩ : St)) (fun s X => VC51_l1 g K s X) (s0 := (0 : Int)) (fun v38 X1 h => ?_) h
     have h : VC51_l1 g K v38 X1 := h
     unfold VC51_l1 at h
     refine srn 1 ⟨58, [sp 1 1, e51_3, e51_1 g, e51_4 g, sI 38 v38, sB 39 (decide (v38 < (g.2.2.2.length : Int)))], [e51_0 g]⟩ (by kernel_rfl) rfl ?_
     refine aw_seq ?_
     refine aw_cond (b := (decide (v38 < (g.2.2.2.length : Int)))) (by kernel_rfl) (fun hb => ?_) (fun hb => ?_)
     ·have h := h.1 hb
      refine aw_skip ?_
      refine thenQ_n ?_
      refine aw_seq ?_
      refine aw_block ?_
      refine sr ?_
      obtain ⟨o1, h⟩ := h
      refine rq 4 (ob := (inIdx v38 g.2.2.2.length ∧ Ts 3 True)) (st' := (⟨58, [sp 1 1, e51_3, sp 5 5, e51_1 g, e51_4 g, sI 38 v38], [e51_0 g, e51_2 g v38]⟩ : St)) (by kernel_rfl) (⟨o1, tsI 3 trivial⟩) ?_
      refine nsr ?_
      obtain ⟨o1, h⟩ := h
      refine rq 6 (ob := (Ts 5 (InR (g.2.1 - (1 : Int)) ∧ True))) (st' := (⟨58, [sp 1 1, e51_3, sp 5 5, e51_1 g, e51_4 g, sI 38 v38, s1 42 (.fn 79 []), sI 44 ((g.2.2.2.getD (v38).toNat ((0 : Int), ([] : LI))).1), sI 47 (g.2.1 - (1 : Int))], [e51_0 g, e51_2 g v38]⟩ : St)) (by kernel_rfl) (tsI 5 ⟨o1, trivial⟩) ?_
      refine lcq (d := 48) [.d tI, .d tI, .d tI] (fun ret48v => (⟨58, [sp 1 1, e51_3, sp 5 5, e51_1 g, e51_4 g, sI 38 v38, sB 48 ret48v], [e51_0 g, e51_2 g v38]⟩ : St)) (by kernel_rfl) Try.call79 (fun _ => by kernel_rfl) (link79 ((g.2.2.2.getD (v38).toNat ((0 : Int), ([] : LI))).1) (0 : Int) (g.2.1 - (1 : Int)) _ h) (fun ret48v h => ?_)
      refine rq 5 (ob := (Ts 2 (Ti 3 ((!ret48v) = false → True) True))) (st' := (⟨58, [sp 1 1, e51_3, e51_1 g, e51_4 g, sI 38 v38, sB 50 (!ret48v), (51, [(50, false)], .v (.agg [.pI g.1, .pI g.2.1, .pI g.2.2.1, .p (.sl tR) g.2.2.2])), (53, [(50, false)], .v (.c (.pS ((g.2.2.2.getD (v38).toNat ((0 : Int), ([] : LI))).2))))], [e51_0 g]⟩ : St)) (by kernel_rfl) (tsI 2 (tiI 3 (fun _ => trivial) trivial)) ?_
      refine awl_callk (p := [(50, false)]) (l := [toV1 tG g, toV1 (.sl tI) ((g.2.2.2.getD (v38).toNat ((0 : Int), ([] : LI))).2)]) (cl := []) false [.d tG, .d (.sl tI)] [1, 3, 36, 37, 38, 50, 54] [1] (fun (ret54v : Bool) => ((((!ret48v) || (!ret54v)) = true → K (2 : Int)) ∧ (((!ret48v) || (!ret54v)) = false → (InR (v38 + (1 : Int)) ∧ X1 (v38 + (1 : Int)))))) (fun ret54v => [toV1 .bool ret54v]) (fun ret54v => (⟨58, [sp 1 1, e51_3, e51_1 g, e51_4 g, sI 38 v38, sB 50 (!ret48v), (54, [(50, false)], .v (.c (.pB ret54v)))], [e51_0 g]⟩ : St)) (by kernel_rfl) rfl (by kernel_rfl) rfl (by kernel_rfl) Try.call81 (by kernel_rfl) (fun ret54v => by kernel_rfl) (fun e => by cases e) (fun hg => link81 g ((g.2.2.2.getD (v38).toNat ((0 : Int), ([] : LI))).2) _ (by have := gcall_T h (show (!(!ret48v)) = true from hg); exact this)) (fun hg => ⟨false, by have := gcall_F h (show (!(!ret48v)) = false from hg); exact this⟩) (fun ret54v h => ?_)
      refine rq 2 (ob := (((!ret48v) = false → True) ∧ Ts 1 True)) (st' := (⟨58, [sp 1 1, e51_3, e51_1 g, e51_4 g, sI 38 v38, sB 56 ((!ret48v) || (!ret54v))], [e51_0 g]⟩ : St)) (by kernel_rfl) (⟨(fun _ => trivial), tsI 1 trivial⟩) ?_
      refine nn ?_
      refine aw_cond (b := ((!ret48v) || (!ret54v))) (by kernel_rfl) (fun hb => ?_) (fun hb => ?_)
      ·have h := h.1 hb
       refine srn 1 ⟨58, [sI 2 (2 : Int)], []⟩ (by kernel_rfl) rfl ?_
       refine aw_ret ?_
       refine blockQ_r ?_
       refine thenQ_r ?_
       refine thenQ_r ?_
       refine blockQ_r ?_
       refine thenQ_r ?_
       exact retQ_r (ob := Ts 1 True) _ (by kernel_rfl) (tsI 1 trivial) h
      ·have h := h.2 hb
       refine aw_skip ?_
       refine blockQ_n ?_
       refine thenQ_n ?_
       refine aw_region ?_
       obtain ⟨o1, h⟩ := h
       refine rq 2 (ob := (InR (v38 + (1 : Int)) ∧ Ts 1 True)) (st' := (⟨58, [sp 1 1, e51_3, e51_1 g, e51_4 g, sI 38 (v38 + (1 : Int))], [e51_0 g]⟩ : St)) (by kernel_rfl) (⟨o1, tsI 1 trivial⟩) ?_
       refine awl_nil ?_
       exact thenQ_n ⟨(v38 + (1 : Int)), rfl, h⟩
     ·have h := h.2 hb
      refine cpr (st' := (⟨58, [], []⟩ : St)) (by kernel_rfl) ?_
      refine aw_exit ?_
      refine thenQ_x ?_
      refine thenQ_x ?_
      refine blockQ_hit ?_
      exact rest1 () h
abbrev e102_0 (sv : LR) : Nat × Path × AV := s1 0 (.p (.sl tR) sv)
-- slices.Clone[[]coppicer/api.Rule,coppicer/api.Rule]
def VC102 (sv : LR) (K : LR → Prop) : Prop :=
  (∀ nil4 : Bool, (nil4 = true → sv = []) → ((nil4 = true → K ([] : List (Int × LI))) ∧ (nil4 = false → (roomN (([] : List (Int × LI)).length + sv.length) ∧ K (([] : List (Int × LI)) ++ sv)))))
set_option maxHeartbeats 4000000 in
theorem link102 (sv : LR) (K : LR → Prop) (h : VC102 sv K) : ACallsO Try.prog 102 [toV1 (.sl tR) sv] 27 tR K := by
 refine acallsO_of_aw 2 Try.func102 rfl rfl rfl ?_
 unfold VC102 at h
 refine srn 1 ⟨8, [e102_0 sv], []⟩ (by kernel_rfl) rfl ?_
 refine aw_seq ?_
 refine sr ?_
 refine rqT 1 ⟨8, [e102_0 sv, s1 3 (.p (.sl tR) sv)], []⟩ (by kernel_rfl) ?_
 refine awl_nil_eql [0, 4] [] (fun nil4 => (⟨8, [e102_0 sv, sB 4 nil4], []⟩ : St)) rfl rfl (by kernel_rfl) rfl (e := 27) (by kernel_rfl) (l := sv) (u := tR) (by kernel_rfl) (fun nil4 => by kernel_rfl) (fun nil4 hnil => ?_)
 have h := h nil4 hnil
 refine nn ?_
 refine aw_cond (b := nil4) (by kernel_rfl) (fun hb => ?_) (fun hb => ?_)
 ·have h := h.1 hb
  refine srn 1 ⟨8, [s1 2 (.nils)], []⟩ (by kernel_rfl) rfl ?_
  refine aw_conv [.nilOwn 2 5002 27 tR] (st' := (⟨8, [s1 2 (.own 5002)], [hA 5002 27 tR ([] : List (Int × LI))]⟩ : St)) (by kernel_rfl) ?_
  refine aw_ret ?_
  refine thenQ_r ?_
  exact ⟨5002, _, by kernel_rfl, by kernel_rfl, h⟩
 ·have h := h.2 hb
  refine aw_skip ?_
  refine thenQ_n ?_
  refine sr ?_
  obtain ⟨o1, h⟩ := h
  refine rq 4 (ob := (Ts 2 (roomN (([] : List (Int × LI)).length + sv.length) ∧ Ts 1 True))) (st' := (⟨8, [s1 2 (.own 7)], [hA 7 27 tR (([] : List (Int × LI)) ++ sv)]⟩ : St)) (by kernel_rfl) (tsI 2 ⟨o1, tsI 1 trivial⟩) ?_
  refine nn ?_
  refine aw_ret ?_
  exact ⟨7, _, by kernel_rfl, by kernel_rfl, h⟩
-- slices.Clone[[]int,int]
def VC123 (sv : LI) (K : LI → Prop) : Prop :=
  (∀ nil4 : Bool, (nil4 = true → sv = []) → ((nil4 = true → K ([] : List Int)) ∧ (nil4 = false → (roomN (([] : List Int).length + sv.length) ∧ K (([] : List Int) ++ sv)))))
set_option maxHeartbeats 4000000 in
theorem link123 (sv : LI) (K : LI → Prop) (h : VC123 sv K) : ACallsO Try.prog 123 [toV1 (.sl tI) sv] 3 tI K := by
 refine acallsO_of_aw 2 Try.func123 rfl rfl rfl ?_
 unfold VC123 at h
 refine srn 1 ⟨8, [s1 0 (.pS sv)], []⟩ (by kernel_rfl) rfl ?_
 refine aw_seq ?_
 refine sr ?_
 refine rqT 1 ⟨8, [s1 0 (.pS sv), s1 3 (.pS sv)], []⟩ (by kernel_rfl) ?_
 refine awl_nil_eql [0, 4] [] (fun nil4 => (⟨8, [s1 0 (.pS sv), sB 4 nil4], []⟩ : St)) rfl rfl (by kernel_rfl) rfl (e := 3) (by kernel_rfl) (l := sv) (u := tI) (by kernel_rfl) (fun nil4 => by kernel_rfl) (fun nil4 hnil => ?_)
 have h := h nil4 hnil
 refine nn ?_
 refine aw_cond (b := nil4) (by kernel_rfl) (fun hb => ?_) (fun hb => ?_)
 ·have h := h.1 hb
  refine srn 1 ⟨8, [s1 2 (.nils)], []⟩ (by kernel_rfl) rfl ?_
  refine aw_conv [.nilOwn 2 5002 3 tI] (st' := (⟨8, [s1 2 (.own 5002)], [hA 5002 3 tI ([] : List Int)]⟩ : St)) (by kernel_rfl) ?_
  refine aw_ret ?_
  refine thenQ_r ?_
  exact ⟨5002, _, by kernel_rfl, by kernel_rfl, h⟩
 ·have h := h.2 hb
  refine aw_skip ?_
  refine thenQ_n ?_
  refine sr ?_
  obtain ⟨o1, h⟩ := h
  refine rq 4 (ob := (Ts 2 (roomN (([] : List Int).length + sv.length) ∧ Ts 1 True))) (st' := (⟨8, [s1 2 (.own 7)], [hA 7 3 tI (([] : List Int) ++ sv)]⟩ : St)) (by kernel_rfl) (tsI 2 ⟨o1, tsI 1 trivial⟩) ?_
  refine nn ?_
  refine aw_ret ?_
  exact ⟨7, _, by kernel_rfl, by kernel_rfl, h⟩
-- coppicer/grammar.Proper$1
def VC108 (rv : (Int × LI)) (a1 : TG) (K : Bool → Prop) : Prop :=
  (((decide ((rv.2.length : Int) = (0 : Int))) = false → ((decide ((rv.2.length : Int) = (1 : Int))) = true → inIdx (0 : Int) rv.2.length)) ∧ K ((decide ((rv.2.length : Int) = (0 : Int))) || ((decide ((rv.2.length : Int) = (1 : Int))) && (decide (a1.1 ≤ (rv.2.getD ((0 : Int)).toNat (0 : Int)))))))
set_option maxHeartbeats 4000000 in
theorem link108 (rv : (Int × LI)) (a1 : TG) (K : Bool → Prop) (h : VC108 rv a1 K) : ACalls Try.prog 108 [toV1 tR rv, .c (.ad tG a1)] (fun res => ∃ y, res = (fun y => [toV1 .bool y]) y ∧ K y) := by
 refine acalls_of_aw [.bool] [.t 3] Try.func108 rfl rfl rfl ?_
 unfold VC108 at h
 refine srn 2 ⟨23, [s1 1 (.ad tG a1), sp 2 2], [hB 2 [.pI rv.1, .pS rv.2]]⟩ (by kernel_rfl) rfl ?_
 refine aw_seq ?_
 refine awd_begin [] (by kernel_rfl) ?_
 obtain ⟨o1, h⟩ := h
 refine drq (by kernel_rfl) [0, 1, 2, 3, 4, 5, 6, 7, 8, 9, 10, 11, 12, 13, 14, 15, 16, 17, 18, 19] (ob := (Ts 5 (Ti 5 ((decide ((rv.2.length : Int) = (0 : Int))) = false → True) (((decide ((rv.2.length : Int) = (0 : Int))) = false → ((decide ((rv.2.length : Int) = (1 : Int))) = true → True)) ∧ ((decide ((rv.2.length : Int) = (0 : Int))) = false → ((decide ((rv.2.length : Int) = (1 : Int))) = true → True)) ∧ ((decide ((rv.2.length : Int) = (0 : Int))) = false → ((decide ((rv.2.length : Int) = (1 : Int))) = true → inIdx (0 : Int) rv.2.length)) ∧ ((decide ((rv.2.length : Int) = (0 : Int))) = false → ((decide ((rv.2.length : Int) = (1 : Int))) = true → True)) ∧ ((decide ((rv.2.length : Int) = (0 : Int))) = false → ((decide ((rv.2.length : Int) = (1 : Int))) = true → True)) ∧ ((decide ((rv.2.length : Int) = (0 : Int))) = false → ((decide ((rv.2.length : Int) = (1 : Int))) = true → True)) ∧ ((decide ((rv.2.length : Int) = (0 : Int))) = false → ((decide ((rv.2.length : Int) = (1 : Int))) = true → True)) ∧ ((decide ((rv.2.length : Int) = (0 : Int))) = false → True) ∧ Ts 2 True)))) (done' := [19, 18, 17, 16, 15, 14, 13, 12, 11, 10, 9, 8, 7, 6, 5, 4, 3, 2, 1, 0]) (st' := (⟨23, [sB 3 ((decide ((rv.2.length : Int) = (0 : Int))) || ((decide ((rv.2.length : Int) = (1 : Int))) && (decide (a1.1 ≤ (rv.2.getD ((0 : Int)).toNat (0 : Int))))))], []⟩ : St)) (by kernel_rfl) (tsI 5 (tiI 5 (fun _ => trivial) (tiI 2 (fun _ _ => trivial) (⟨o1, tiI 4 (fun _ _ => trivial) ⟨(fun _ => trivial), tsI 2 trivial⟩⟩)))) ?_
 refine awd_done (by kernel_rfl) ?_
 refine thenQ_n ?_
 refine aw_ret ?_
 exact retQ_r (ob := Ts 1 True) _ (by kernel_rfl) (tsI 1 trivial) h
abbrev e84_0 (g : TG) : Nat × Path × Con := hB 1 [.pI g.1, .pI g.2.1, .pI g.2.2.1, .p (.sl tR) g.2.2.2]
abbrev e84_1 (g : TG) : Nat × Path × AV := s1 4 (.p (.sl tR) g.2.2.2)
-- coppicer/grammar.Proper
def VC84 (g : TG) (K : Bool → Prop) : Prop :=
  VC77 g.2.2.2 (fun (x : (Int × LI)) (K : Bool → Prop) => VC108 x g K) (fun (ret6v : Bool) => K (!ret6v))
set_option maxHeartbeats 4000000 in
theorem link84 (g : TG) (K : Bool → Prop) (h : VC84 g K) : ACalls Try.prog 84 [toV1 tG g] (fun res => ∃ y, res = (fun y => [toV1 .bool y]) y ∧ K y) := by
 refine acalls_of_aw [.bool] [.t 2] Try.func84 rfl rfl rfl ?_
 unfold VC84 at h
 refine sr ?_
 refine rqT 2 ⟨8, [sp 1 1], [e84_0 g]⟩ (by kernel_rfl) ?_
 refine nsr ?_
 refine rqT 2 ⟨8, [sp 1 1, e84_1 g], [e84_0 g]⟩ (by kernel_rfl) ?_
 refine awl_conv [.freezeB 1 tG] (st' := (⟨8, [s1 1 (.ad tG g), e84_1 g], []⟩ : St)) (by kernel_rfl) ?_
 refine rqT 1 ⟨8, [e84_1 g, s1 5 (.fn 108 [(⟨tG, g⟩ : Dat)])], []⟩ (by kernel_rfl) ?_
 refine lcq (d := 6) [.d (.sl tR), .fn] (fun ret6v => (⟨8, [sB 6 ret6v], []⟩ : St)) (by kernel_rfl) Try.call77 (fun _ => by kernel_rfl) (link77 g.2.2.2 108 [(⟨tG, g⟩ : Dat)] (fun (x : (Int × LI)) (K : Bool → Prop) => VC108 x g K) ⟨Try.call108, fun x K h => link108 x g K h⟩ _ h) (fun ret6v h => ?_)
 refine rqT 2 ⟨8, [sB 2 (!ret6v)], []⟩ (by kernel_rfl) ?_
 refine nn ?_
 refine aw_ret ?_
 exact retQ_r (ob := Ts 1 True) _ (by kernel_rfl) (tsI 1 trivial) h
-- coppicer/machine.within
def VC106 (n : Int) (low : Int) (high : Int) (K : Bool → Prop) : Prop :=
  K ((decide (low ≤ n)) && (decide (n ≤ high)))
set_option maxHeartbeats 4000000 in
theorem link106 (n : Int) (low : Int) (high : Int) (K : Bool → Prop) (h : VC106 n low high K) : ACalls Try.prog 106 [toV1 tI n, toV1 tI low, toV1 tI high] (fun res => ∃ y, res = (fun y => [toV1 .bool y]) y ∧ K y) := by
 refine acalls_of_aw [.bool] [.t 6] Try.func106 rfl rfl rfl ?_
 unfold VC106 at h
 refine sr ?_
 refine rqT 1 ⟨15, [sI 0 n, sI 1 low, sI 2 high], []⟩ (by kernel_rfl) ?_
 refine nsr ?_
 refine rq 9 (ob := (Ts 4 (Ti 3 ((decide (low ≤ n)) = true → True) (Ts 2 True)))) (st' := (⟨15, [sB 6 ((decide (low ≤ n)) && (decide (n ≤ high)))], []⟩ : St)) (by kernel_rfl) (tsI 4 (tiI 3 (fun _ => trivial) (tsI 2 trivial))) ?_
 refine nn ?_
 refine aw_ret ?_
 exact retQ_r (ob := Ts 1 True) _ (by kernel_rfl) (tsI 1 trivial) h
-- coppicer/machine.Word$1
def VC105 (sv : Int) (a1 : Int) (K : Bool → Prop) : Prop :=
  (InR (a1 - (1 : Int)) ∧ VC106 sv (0 : Int) (a1 - (1 : Int)) (fun (ret7v : Bool) => K (!ret7v)))
set_option maxHeartbeats 4000000 in
theorem link105 (sv : Int) (a1 : Int) (K : Bool → Prop) (h : VC105 sv a1 K) : ACalls Try.prog 105 [toV1 tI sv, .c (.ad tI a1)] (fun res => ∃ y, res = (fun y => [toV1 .bool y]) y ∧ K y) := by
 refine acalls_of_aw [.bool] [.t 3] Try.func105 rfl rfl rfl ?_
 unfold VC105 at h
 refine sr ?_
 refine rqT 1 ⟨9, [sI 0 sv, s1 1 (.ad tI a1)], []⟩ (by kernel_rfl) ?_
 refine nsr ?_
 obtain ⟨o1, h⟩ := h
 refine rq 3 (ob := (Ts 2 (InR (a1 - (1 : Int)) ∧ True))) (st' := (⟨9, [sI 4 sv, sI 6 (a1 - (1 : Int))], []⟩ : St)) (by kernel_rfl) (tsI 2 ⟨o1, trivial⟩) ?_
 refine lcq (d := 7) [.d tI, .d tI, .d tI] (fun ret7v => (⟨9, [sB 7 ret7v], []⟩ : St)) (by kernel_rfl) Try.call106 (fun _ => by kernel_rfl) (link106 sv (0 : Int) (a1 - (1 : Int)) _ h) (fun ret7v h => ?_)
 refine rqT 2 ⟨9, [sB 3 (!ret7v)], []⟩ (by kernel_rfl) ?_
 refine nn ?_
 refine aw_ret ?_
 exact retQ_r (ob := Ts 1 True) _ (by kernel_rfl) (tsI 1 trivial) h
-- coppicer/machine.Word
def VC75 (k : Int) (w : LI) (K : Int → Prop) : Prop :=
  (((decide ((12 : Int) < (w.length : Int))) = true → K (1 : Int)) ∧ ((decide ((12 : Int) < (w.length : Int))) = false → VC59 w (fun (x : Int) (K : Bool → Prop) => VC105 x k K) (fun (ret10v : Bool) => ((ret10v = true → K (2 : Int)) ∧ (ret10v = false → K (0 : Int))))))
set_option maxHeartbeats 4000000 in
theorem link75 (k : Int) (w : LI) (K : Int → Prop) (h : VC75 k w K) : ACalls Try.prog 75 [toV1 tI k, toV1 (.sl tI) w] (fun res => ∃ y, res = (fun y => [toV1 tI y]) y ∧ K y) := by
 refine acalls_of_aw [tI] [.t 4] Try.func75 rfl rfl rfl ?_
 unfold VC75 at h
 refine srn 2 ⟨11, [s1 1 (.pS w), sp 2 2], [hB 2 [.pI k]]⟩ (by kernel_rfl) rfl ?_
 refine aw_seq ?_
 refine srn 3 ⟨11, [s1 1 (.pS w), sp 2 2, sB 7 (decide ((12 : Int) < (w.length : Int)))], [hB 2 [.pI k]]⟩ (by kernel_rfl) rfl ?_
 refine aw_cond (b := (decide ((12 : Int) < (w.length : Int)))) (by kernel_rfl) (fun hb => ?_) (fun hb => ?_)
 ·have h := h.1 hb
  refine srn 1 ⟨11, [sI 4 (1 : Int)], []⟩ (by kernel_rfl) rfl ?_
  refine aw_ret ?_
  refine thenQ_r ?_
  exact retQ_r (ob := Ts 1 True) _ (by kernel_rfl) (tsI 1 trivial) h
 ·have h := h.2 hb
  refine aw_skip ?_
  refine thenQ_n ?_
  refine aw_seq ?_
  refine sr ?_
  refine rqT 1 ⟨11, [sp 2 2, s1 8 (.pS w)], [hB 2 [.pI k]]⟩ (by kernel_rfl) ?_
  refine awl_conv [.freezeB 2 tI] (st' := (⟨11, [s1 2 (.ad tI k), s1 8 (.pS w)], []⟩ : St)) (by kernel_rfl) ?_
  refine rqT 1 ⟨11, [s1 8 (.pS w), s1 9 (.fn 105 [(⟨tI, k⟩ : Dat)])], []⟩ (by kernel_rfl) ?_
  refine lcq (d := 10) [.d (.sl tI), .fn] (fun ret10v => (⟨11, [sB 10 ret10v], []⟩ : St)) (by kernel_rfl) Try.call59 (fun _ => by kernel_rfl) (link59 w 105 [(⟨tI, k⟩ : Dat)] (fun (x : Int) (K : Bool → Prop) => VC105 x k K) ⟨Try.call105, fun x K h => link105 x k K h⟩ _ h) (fun ret10v h => ?_)
  refine nn ?_
  refine aw_cond (b := ret10v) (by kernel_rfl) (fun hb => ?_) (fun hb => ?_)
  ·have h := h.1 hb
   refine srn 1 ⟨11, [sI 4 (2 : Int)], []⟩ (by kernel_rfl) rfl ?_
   refine aw_ret ?_
   refine thenQ_r ?_
   exact retQ_r (ob := Ts 1 True) _ (by kernel_rfl) (tsI 1 trivial) h
  ·have h := h.2 hb
   refine aw_skip ?_
   refine thenQ_n ?_
   refine srn 1 ⟨11, [sI 4 (0 : Int)], []⟩ (by kernel_rfl) rfl ?_
   refine aw_ret ?_
   exact retQ_r (ob := Ts 1 True) _ (by kernel_rfl) (tsI 1 trivial) h
abbrev e44_0 (g : TG) : Nat × Path × Con := hB 2 [.pI g.1, .pI g.2.1, .pI g.2.2.1, .p (.sl tR) g.2.2.2]
-- coppicer/table.Check
def VC44 (g : TG) (w : LI) (K : Int → Prop) : Prop :=
  VC51 g (fun (ret7v : Int) => (((!decide (ret7v = (0 : Int))) = true → K ret7v) ∧ ((!decide (ret7v = (0 : Int))) = false → VC75 g.1 w (fun (ret14v : Int) => K ret14v))))
set_option maxHeartbeats 4000000 in
theorem link44 (g : TG) (w : LI) (K : Int → Prop) (h : VC44 g w K) : ACalls Try.prog 44 [toV1 tG g, toV1 (.sl tI) w] (fun res => ∃ y, res = (fun y => [toV1 tI y]) y ∧ K y) := by
 refine acalls_of_aw [tI] [.t 4] Try.func44 rfl rfl rfl ?_
 unfold VC44 at h
 refine srn 2 ⟨15, [s1 1 (.pS w), sp 2 2], [e44_0 g]⟩ (by kernel_rfl) rfl ?_
 refine aw_seq ?_
 refine sr ?_
 refine rqT 1 ⟨15, [s1 1 (.pS w), sp 2 2, sA 6 [.pI g.1, .pI g.2.1, .pI g.2.2.1, .p (.sl tR) g.2.2.2]], [e44_0 g]⟩ (by kernel_rfl) ?_
 refine lcq (d := 7) [.d tG] (fun ret7v => (⟨15, [s1 1 (.pS w), sp 2 2, sI 7 ret7v], [e44_0 g]⟩ : St)) (by kernel_rfl) Try.call51 (fun _ => by kernel_rfl) (link51 g _ h) (fun ret7v h => ?_)
 refine rqT 1 ⟨15, [s1 1 (.pS w), sp 2 2, sI 5 ret7v], [e44_0 g]⟩ (by kernel_rfl) ?_
 refine nsr ?_
 refine rqT 2 ⟨15, [s1 1 (.pS w), sp 2 2, sI 5 ret7v, sB 9 (!decide (ret7v = (0 : Int)))], [e44_0 g]⟩ (by kernel_rfl) ?_
 refine nn ?_
 refine aw_cond (b := (!decide (ret7v = (0 : Int)))) (by kernel_rfl) (fun hb => ?_) (fun hb => ?_)
 ·have h := h.1 hb
  refine srn 2 ⟨15, [sI 4 ret7v], []⟩ (by kernel_rfl) rfl ?_
  refine aw_ret ?_
  refine thenQ_r ?_
  exact retQ_r (ob := Ts 1 True) _ (by kernel_rfl) (tsI 1 trivial) h
 ·have h := h.2 hb
  refine aw_skip ?_
  refine thenQ_n ?_
  refine sr ?_
  refine rqT 3 ⟨15, [sI 12 g.1, s1 13 (.pS w)], []⟩ (by kernel_rfl) ?_
  refine lcq (d := 14) [.d tI, .d (.sl tI)] (fun ret14v => (⟨15, [sI 14 ret14v], []⟩ : St)) (by kernel_rfl) Try.call75 (fun _ => by kernel_rfl) (link75 g.1 w _ h) (fun ret14v h => ?_)
  refine rqT 1 ⟨15, [sI 4 ret14v], []⟩ (by kernel_rfl) ?_
  refine nn ?_
  refine aw_ret ?_
  exact retQ_r (ob := Ts 1 True) _ (by kernel_rfl) (tsI 1 trivial) h
-- coppicer/table.Times
def VC124 (a : Int) (b : Int) (K : Int → Prop) : Prop :=
  ((((decide (a = (0 : Int))) || (decide (b = (0 : Int)))) = true → K (0 : Int)) ∧ (((decide (a = (0 : Int))) || (decide (b = (0 : Int)))) = false → ((0 ≤ (1099511627777 : Int) ∧ 0 < b) ∧ (((decide (((1099511627777 : Int) / b) < a)) = true → K (1099511627777 : Int)) ∧ ((decide (((1099511627777 : Int) / b) < a)) = false → (InR (a * b) ∧ K (imin (a * b) (1099511627777 : Int))))))))
set_option maxHeartbeats 4000000 in
theorem link124 (a : Int) (b : Int) (K : Int → Prop) (h : VC124 a b K) : ACalls Try.prog 124 [toV1 tI a, toV1 tI b] (fun res => ∃ y, res = (fun y => [toV1 tI y]) y ∧ K y) := by
 refine acalls_of_aw [tI] [.t 4] Try.func124 rfl rfl rfl ?_
 unfold VC124 at h
 refine srn 1 ⟨19, [sI 0 a, sI 1 b], []⟩ (by kernel_rfl) rfl ?_
 refine aw_seq ?_
 refine sr ?_
 refine rq 6 (ob := (Ts 3 (Ti 2 ((decide (a = (0 : Int))) = false → True) (Ts 1 True)))) (st' := (⟨19, [sI 0 a, sI 1 b, sB 10 ((decide (a = (0 : Int))) || (decide (b = (0 : Int))))], []⟩ : St)) (by kernel_rfl) (tsI 3 (tiI 2 (fun _ => trivial) (tsI 1 trivial))) ?_
 refine nn ?_
 refine aw_cond (b := ((decide (a = (0 : Int))) || (decide (b = (0 : Int))))) (by kernel_rfl) (fun hb => ?_) (fun hb => ?_)
 ·have h := h.1 hb
  refine srn 1 ⟨19, [sI 4 (0 : Int)], []⟩ (by kernel_rfl) rfl ?_
  refine aw_ret ?_
  refine thenQ_r ?_
  exact retQ_r (ob := Ts 1 True) _ (by kernel_rfl) (tsI 1 trivial) h
 ·have h := h.2 hb
  refine aw_skip ?_
  refine thenQ_n ?_
  refine aw_seq ?_
  refine sr ?_
  obtain ⟨o1, h⟩ := h
  refine rq 4 (ob := (Ts 2 ((0 ≤ (1099511627777 : Int) ∧ 0 < b) ∧ Ts 1 True))) (st' := (⟨19, [sI 0 a, sI 1 b, sB 14 (decide (((1099511627777 : Int) / b) < a))], []⟩ : St)) (by kernel_rfl) (tsI 2 ⟨o1, tsI 1 trivial⟩) ?_
  refine nn ?_
  refine aw_cond (b := (decide (((1099511627777 : Int) / b) < a))) (by kernel_rfl) (fun hb => ?_) (fun hb => ?_)
  ·have h := h.1 hb
   refine srn 1 ⟨19, [sI 4 (1099511627777 : Int)], []⟩ (by kernel_rfl) rfl ?_
   refine aw_ret ?_
   refine thenQ_r ?_
   exact retQ_r (ob := Ts 1 True) _ (by kernel_rfl) (tsI 1 trivial) h
  ·have h := h.2 hb
   refine aw_skip ?_
   refine thenQ_n ?_
   refine sr ?_
   obtain ⟨o1, h⟩ := h
   refine rq 5 (ob := (Ts 2 (InR (a * b) ∧ Ts 2 True))) (st' := (⟨19, [sI 4 (imin (a * b) (1099511627777 : Int))], []⟩ : St)) (by kernel_rfl) (tsI 2 ⟨o1, tsI 2 trivial⟩) ?_
   refine nn ?_
   refine aw_ret ?_
   exact retQ_r (ob := Ts 1 True) _ (by kernel_rfl) (tsI 1 trivial) h
-- coppicer/table.Add
def VC109 (a : Int) (b : Int) (K : Int → Prop) : Prop :=
  (InR (a + b) ∧ K (imin (a + b) (1099511627777 : Int)))
set_option maxHeartbeats 4000000 in
theorem link109 (a : Int) (b : Int) (K : Int → Prop) (h : VC109 a b K) : ACalls Try.prog 109 [toV1 tI a, toV1 tI b] (fun res => ∃ y, res = (fun y => [toV1 tI y]) y ∧ K y) := by
 refine acalls_of_aw [tI] [.t 4] Try.func109 rfl rfl rfl ?_
 unfold VC109 at h
 refine sr ?_
 refine rqT 1 ⟨9, [sI 0 a, sI 1 b], []⟩ (by kernel_rfl) ?_
 refine nsr ?_
 obtain ⟨o1, h⟩ := h
 refine rq 5 (ob := (Ts 2 (InR (a + b) ∧ Ts 2 True))) (st' := (⟨9, [sI 4 (imin (a + b) (1099511627777 : Int))], []⟩ : St)) (by kernel_rfl) (tsI 2 ⟨o1, tsI 2 trivial⟩) ?_
 refine nn ?_
 refine aw_ret ?_
 exact retQ_r (ob := Ts 1 True) _ (by kernel_rfl) (tsI 1 trivial) h
abbrev e27_0 (c0 : Int) (c1 : Int) (c2 : Int) (c3 : LR) (c4 : LI) : Nat × Path × Con := hB 70000 [.pI c0, .pI c1, .pI c2, .p (.sl tR) c3, .pS c4, .own 70001]
abbrev e27_1 (c3 : LR) (c : Int) (rule : Int) : Nat × Path × AV := sI 1 ((((c3.getD (c).toNat ((0 : Int), ([] : LI))).2).drop (rule).toNat).getD ((0 : Int)).toNat (0 : Int))
abbrev e27_2 (c3 : LR) (c : Int) (rule : Int) (fromv : Int) (over : Int) : Nat × Path × Con := hB 7 [.pI (-1 : Int), .pI ((((c3.getD (c).toNat ((0 : Int), ([] : LI))).2).drop (rule).toNat).getD ((0 : Int)).toNat (0 : Int)), .pI fromv, .pI over]
abbrev e27_3 (c3 : LR) (c : Int) (rule : Int) (fromv : Int) (endv : Int) : Nat × Path × Con := hB 7 [.pI (-1 : Int), .pI ((((c3.getD (c).toNat ((0 : Int), ([] : LI))).2).drop (rule).toNat).getD ((0 : Int)).toNat (0 : Int)), .pI fromv, .pI endv]
abbrev e27_4 (c3 : LR) (c : Int) (rule : Int) : Nat × Path × AV := s1 96 (.pS (((c3.getD (c).toNat ((0 : Int), ([] : LI))).2).drop (rule).toNat))
abbrev e27_5 (c : Int) (rule : Int) (fromv : Int) (over : Int) : Nat × Path × Con := hB 30101 [.pI c, .pI rule, .pI fromv, .pI over]
abbrev e27_6 (c3 : LR) (c : Int) (rule : Int) : Nat × Path × AV := s1 9 (.pS (((c3.getD (c).toNat ((0 : Int), ([] : LI))).2).drop (rule).toNat))
abbrev e27_7 (l70001 : LK) : Nat × Path × Con := (70001, [], .dict (.pr tI t3) tI l70001)
abbrev e27_8 (c5 : LK) : Nat × Path × Con := (70001, [], .dict (.pr tI t3) tI c5)
abbrev e27_9 (c3 : LR) : Nat × Path × AV := s1 56 (.p (.sl tR) c3)
abbrev e27_10 (fromv : Int) (over : Int) : Nat × Path × Con := hB 30100 [.pI fromv, .pI over]
abbrev e27_11 (l700012 : LK) : Nat × Path × Con := (70001, [], .dict (.pr tI t3) tI l700012)
abbrev e27_12 : Nat × Path × AV := sp 0 70000
abbrev e27_13 : Nat × Path × AV := sp 186 70000
abbrev e27_14 (ret77v : Int × LK) : Nat × Path × Con := (70001, [], .dict (.pr tI t3) tI ret77v.2)
abbrev e27_15 (c3 : LR) : Nat × Path × AV := sI 57 (c3.length : Int)
abbrev e27_16 (fromv : Int) (over : Int) : Nat × Path × Con := hB 5 [.pI fromv, .pI over]
abbrev e27_17 (fromv : Int) (endv : Int) : Nat × Path × Con := hB 5 [.pI fromv, .pI endv]
abbrev e27_18 : Nat × Path × AV := sp 99 70000
abbrev e27_19 (c : Int) (rule : Int) (fromv : Int) (over : Int) : Nat × Path × Con := hB 10 [.pI c, .pI rule, .pI fromv, .pI over]
abbrev e27_20 (l700012 : LK) (c3 : LR) (c : Int) (rule : Int) (fromv : Int) (endv : Int) (n2 : Int) : Nat × Path × Con := (70001, [], .dict (.pr tI t3) tI (mset l700012 ((-1 : Int), (((((c3.getD (c).toNat ((0 : Int), ([] : LI))).2).drop (rule).toNat).getD ((0 : Int)).toNat (0 : Int)), (fromv, endv))) n2))
abbrev e27_21 (ret89v : Int × LK) : Nat × Path × Con := (70001, [], .dict (.pr tI t3) tI ret89v.2)
abbrev e27_22 (c3 : LR) (v58 : Int) (c : Int) (rule : Int) (c0 : Int) : Nat × Path × AV := sB 72 (decide ((c3.getD (v58).toNat ((0 : Int), ([] : LI))).1 = (((((c3.getD (c).toNat ((0 : Int), ([] : LI))).2).drop (rule).toNat).getD ((0 : Int)).toNat (0 : Int)) - c0)))
abbrev e27_23 : Nat × Path × AV := sp 87 70000
abbrev e27_24 : Nat × Path × AV := sp 94 30100
abbrev e27_25 : Nat × Path × AV := sp 97 30101
abbrev e27_26 (c3 : LR) (c : Int) (rule : Int) : Nat × Path × AV := sI 71 ((((c3.getD (c).toNat ((0 : Int), ([] : LI))).2).drop (rule).toNat).getD ((0 : Int)).toNat (0 : Int))
abbrev e27_27 (fromv : Int) (over : Int) : Nat × Path × Con := hB 7 [.pI fromv, .pI over]
abbrev e27_28 (c3 : LR) (c : Int) (rule : Int) (c0 : Int) : Nat × Path × AV := sB 19 (decide (((((c3.getD (c).toNat ((0 : Int), ([] : LI))).2).drop (rule).toNat).getD ((0 : Int)).toNat (0 : Int)) < c0))
abbrev e27_29 (c3 : LR) (v58 : Int) : Nat × Path × Con := hB 12 [.pI ((c3.getD (v58).toNat ((0 : Int), ([] : LI))).1), .pS ((c3.getD (v58).toNat ((0 : Int), ([] : LI))).2)]
abbrev e27_30 (c3 : LR) (c : Int) (rule : Int) : Nat × Path × AV := sB 37 (decide (((((c3.getD (c).toNat ((0 : Int), ([] : LI))).2).drop (rule).toNat).length : Int) = (1 : Int)))
abbrev e27_31 (l700013 : LK) : Nat × Path × Con := (70001, [], .dict (.pr tI t3) tI l700013)
abbrev e27_32 : Nat × Path × AV := sp 10 30101
abbrev e27_33 : Nat × Path × AV := sp 7 30100
abbrev e27_n0 : List Nat := [0, 1, 2, 3, 4, 5, 6, 7, 8, 9, 10, 11, 12, 13, 14, 15, 16, 17]
abbrev e27_n1 : List Nat := [17, 16, 15, 14, 13, 12, 11, 10, 9, 8, 7, 6, 5, 4, 3, 2, 1, 0]
abbrev e27_n2 : List Nat := [0, 1, 2, 3, 4, 5, 6, 7, 8, 9, 10]
abbrev e27_n3 : List Nat := [10, 9, 8, 7, 6, 5, 4, 3, 2, 1, 0]
-- (*coppicer/table.Counter).Row
def VCc100_k1 (K : Int × LK → Prop) (v6 : Int) (l70001 : LK) : Prop :=
  K (v6, l70001)
def VCc100_k2 (c3 : LR) (c : Int) (rule : Int) (fromv : Int) (over : Int) (K : Int × LK → Prop) (n : Int) (l70001 : LK) : Prop :=
  VCc100_k1 K n (mset l70001 ((-1 : Int), (((((c3.getD (c).toNat ((0 : Int), ([] : LI))).2).drop (rule).toNat).getD ((0 : Int)).toNat (0 : Int)), (fromv, over))) n)
def VCc100_k3 (v58 : Int) (X1 : Int × Int × LK → Prop) (n2 : Int) (l700012 : LK) : Prop :=
  (InR (v58 + (1 : Int)) ∧ X1 (n2, (v58 + (1 : Int)), l700012))
def VCc100_l1 (c0 : Int) (c3 : LR) (R : Int → Int → Int → Int → LK → (Int × LK → Prop) → Prop) (c : Int) (rule : Int) (fromv : Int) (over : Int) (K : Int × LK → Prop) (n : Int) (v58 : Int) (l70001 : LK) (X1 : Int × Int × LK → Prop) : Prop :=
  (((decide (v58 < (c3.length : Int))) = true → (inIdx v58 c3.length ∧ (InR (((((c3.getD (c).toNat ((0 : Int), ([] : LI))).2).drop (rule).toNat).getD ((0 : Int)).toNat (0 : Int)) - c0) ∧ (((decide ((c3.getD (v58).toNat ((0 : Int), ([] : LI))).1 = (((((c3.getD (c).toNat ((0 : Int), ([] : LI))).2).drop (rule).toNat).getD ((0 : Int)).toNat (0 : Int)) - c0))) = true → R v58 (0 : Int) fromv over l70001 (fun (ret77v : Int × LK) => VC109 n ret77v.1 (fun (ret78v : Int) => VCc100_k3 v58 X1 ret78v ret77v.2))) ∧ ((decide ((c3.getD (v58).toNat ((0 : Int), ([] : LI))).1 = (((((c3.getD (c).toNat ((0 : Int), ([] : LI))).2).drop (rule).toNat).getD ((0 : Int)).toNat (0 : Int)) - c0))) = false → VCc100_k3 v58 X1 n l70001))))) ∧ ((decide (v58 < (c3.length : Int))) = false → VCc100_k2 c3 c rule fromv over K n l70001))
def VCc100_k4 (c : Int) (rule : Int) (fromv : Int) (over : Int) (K : Int × LK → Prop) (n : Int) (l70001 : LK) : Prop :=
  K (n, (mset l70001 (c, (rule, (fromv, over))) n))
def VCc100_k6 (endv : Int) (X2 : Int × Int × LK → Prop) (n2 : Int) (l700013 : LK) : Prop :=
  (InR (endv + (1 : Int)) ∧ X2 (n2, (endv + (1 : Int)), l700013))
def VCc100_k5 (R : Int → Int → Int → Int → LK → (Int × LK → Prop) → Prop) (c : Int) (rule : Int) (over : Int) (n : Int) (endv : Int) (X2 : Int × Int × LK → Prop) (v6 : Int) (l700012 : LK) : Prop :=
  (((decide ((0 : Int) < v6)) = true → (InR (rule + (1 : Int)) ∧ R c (rule + (1 : Int)) endv over l700012 (fun (ret89v : Int × LK) => VC124 v6 ret89v.1 (fun (ret90v : Int) => VC109 n ret90v (fun (ret91v : Int) => VCc100_k6 endv X2 ret91v ret89v.2))))) ∧ ((decide ((0 : Int) < v6)) = false → VCc100_k6 endv X2 n l700012))
def VCc100_k7 (c3 : LR) (R : Int → Int → Int → Int → LK → (Int × LK → Prop) → Prop) (c : Int) (rule : Int) (fromv : Int) (over : Int) (n : Int) (endv : Int) (X2 : Int × Int × LK → Prop) (n2 : Int) (l700012 : LK) : Prop :=
  VCc100_k5 R c rule over n endv X2 n2 (mset l700012 ((-1 : Int), (((((c3.getD (c).toNat ((0 : Int), ([] : LI))).2).drop (rule).toNat).getD ((0 : Int)).toNat (0 : Int)), (fromv, endv))) n2)
def VCc100_k8 (v58 : Int) (X3 : Int × Int × LK → Prop) (n3 : Int) (l700013 : LK) : Prop :=
  (InR (v58 + (1 : Int)) ∧ X3 (n3, (v58 + (1 : Int)), l700013))
def VCc100_l3 (c0 : Int) (c3 : LR) (R : Int → Int → Int → Int → LK → (Int × LK → Prop) → Prop) (c : Int) (rule : Int) (fromv : Int) (over : Int) (n : Int) (endv : Int) (X2 : Int × Int × LK → Prop) (n2 : Int) (v58 : Int) (l700012 : LK) (X3 : Int × Int × LK → Prop) : Prop :=
  (((decide (v58 < (c3.length : Int))) = true → (inIdx v58 c3.length ∧ (InR (((((c3.getD (c).toNat ((0 : Int), ([] : LI))).2).drop (rule).toNat).getD ((0 : Int)).toNat (0 : Int)) - c0) ∧ (((decide ((c3.getD (v58).toNat ((0 : Int), ([] : LI))).1 = (((((c3.getD (c).toNat ((0 : Int), ([] : LI))).2).drop (rule).toNat).getD ((0 : Int)).toNat (0 : Int)) - c0))) = true → R v58 (0 : Int) fromv endv l700012 (fun (ret77v : Int × LK) => VC109 n2 ret77v.1 (fun (ret78v : Int) => VCc100_k8 v58 X3 ret78v ret77v.2))) ∧ ((decide ((c3.getD (v58).toNat ((0 : Int), ([] : LI))).1 = (((((c3.getD (c).toNat ((0 : Int), ([] : LI))).2).drop (rule).toNat).getD ((0 : Int)).toNat (0 : Int)) - c0))) = false → VCc100_k8 v58 X3 n2 l700012))))) ∧ ((decide (v58 < (c3.length : Int))) = false → VCc100_k7 c3 R c rule fromv over n endv X2 n2 l700012))
def VCc100_l2 (c0 : Int) (c3 : LR) (c4 : LI) (R : Int → Int → Int → Int → LK → (Int × LK → Prop) → Prop) (c : Int) (rule : Int) (fromv : Int) (over : Int) (K : Int × LK → Prop) (n : Int) (endv : Int) (l70001 : LK) (X2 : Int × Int × LK → Prop) : Prop :=
  (((decide (endv < over)) = true → (inIdx (0 : Int) (((c3.getD (c).toNat ((0 : Int), ([] : LI))).2).drop (rule).toNat).length ∧ (((decide (((((c3.getD (c).toNat ((0 : Int), ([] : LI))).2).drop (rule).toNat).getD ((0 : Int)).toNat (0 : Int)) < c0)) = true → (InR (fromv + (1 : Int)) ∧ ((decide (endv = (fromv + (1 : Int)))) = true → inIdx fromv c4.length) ∧ ((((decide (endv = (fromv + (1 : Int)))) && (decide ((c4.getD (fromv).toNat (0 : Int)) = ((((c3.getD (c).toNat ((0 : Int), ([] : LI))).2).drop (rule).toNat).getD ((0 : Int)).toNat (0 : Int))))) = true → VCc100_k5 R c rule over n endv X2 (1 : Int) l70001) ∧ (((decide (endv = (fromv + (1 : Int)))) && (decide ((c4.getD (fromv).toNat (0 : Int)) = ((((c3.getD (c).toNat ((0 : Int), ([] : LI))).2).drop (rule).toNat).getD ((0 : Int)).toNat (0 : Int))))) = false → VCc100_k5 R c rule over n endv X2 (0 : Int) l70001)))) ∧ ((decide (((((c3.getD (c).toNat ((0 : Int), ([] : LI))).2).drop (rule).toNat).getD ((0 : Int)).toNat (0 : Int)) < c0)) = false → (((mget l70001 ((-1 : Int), (((((c3.getD (c).toNat ((0 : Int), ([] : LI))).2).drop (rule).toNat).getD ((0 : Int)).toNat (0 : Int)), (fromv, endv)))).isSome = true → VCc100_k5 R c rule over n endv X2 ((mget l70001 ((-1 : Int), (((((c3.getD (c).toNat ((0 : Int), ([] : LI))).2).drop (rule).toNat).getD ((0 : Int)).toNat (0 : Int)), (fromv, endv)))).getD (0 : Int)) l70001) ∧ ((mget l70001 ((-1 : Int), (((((c3.getD (c).toNat ((0 : Int), ([] : LI))).2).drop (rule).toNat).getD ((0 : Int)).toNat (0 : Int)), (fromv, endv)))).isSome = false → Loop (σ := Int × Int × LK) (fun s X => VCc100_l3 c0 c3 R c rule fromv over n endv X2 s.1 s.2.1 s.2.2 X) ((0 : Int), (0 : Int), l70001))))))) ∧ ((decide (endv < over)) = false → VCc100_k4 c rule fromv over K n l70001))
def VCc100 (c0 : Int) (c1 : Int) (c2 : Int) (c3 : LR) (c4 : LI) (R : Int → Int → Int → Int → LK → (Int × LK → Prop) → Prop) (c : Int) (rule : Int) (fromv : Int) (over : Int) (c5 : LK) (K : Int × LK → Prop) : Prop :=
  (inIdx c c3.length ∧ (0 ≤ rule ∧ rule ≤ (((c3.getD (c).toNat ((0 : Int), ([] : LI))).2).length : Int)) ∧ (InR (over - fromv) ∧ (((decide ((over - fromv) < ((((c3.getD (c).toNat ((0 : Int), ([] : LI))).2).drop (rule).toNat).length : Int))) = true → K ((0 : Int), c5)) ∧ ((decide ((over - fromv) < ((((c3.getD (c).toNat ((0 : Int), ([] : LI))).2).drop (rule).toNat).length : Int))) = false → (((decide (((((c3.getD (c).toNat ((0 : Int), ([] : LI))).2).drop (rule).toNat).length : Int) = (1 : Int))) = true → (inIdx (0 : Int) (((c3.getD (c).toNat ((0 : Int), ([] : LI))).2).drop (rule).toNat).length ∧ (((decide (((((c3.getD (c).toNat ((0 : Int), ([] : LI))).2).drop (rule).toNat).getD ((0 : Int)).toNat (0 : Int)) < c0)) = true → (InR (fromv + (1 : Int)) ∧ ((decide (over = (fromv + (1 : Int)))) = true → inIdx fromv c4.length) ∧ ((((decide (over = (fromv + (1 : Int)))) && (decide ((c4.getD (fromv).toNat (0 : Int)) = ((((c3.getD (c).toNat ((0 : Int), ([] : LI))).2).drop (rule).toNat).getD ((0 : Int)).toNat (0 : Int))))) = true → VCc100_k1 K (1 : Int) c5) ∧ (((decide (over = (fromv + (1 : Int)))) && (decide ((c4.getD (fromv).toNat (0 : Int)) = ((((c3.getD (c).toNat ((0 : Int), ([] : LI))).2).drop (rule).toNat).getD ((0 : Int)).toNat (0 : Int))))) = false → VCc100_k1 K (0 : Int) c5)))) ∧ ((decide (((((c3.getD (c).toNat ((0 : Int), ([] : LI))).2).drop (rule).toNat).getD ((0 : Int)).toNat (0 : Int)) < c0)) = false → (((mget c5 ((-1 : Int), (((((c3.getD (c).toNat ((0 : Int), ([] : LI))).2).drop (rule).toNat).getD ((0 : Int)).toNat (0 : Int)), (fromv, over)))).isSome = true → VCc100_k1 K ((mget c5 ((-1 : Int), (((((c3.getD (c).toNat ((0 : Int), ([] : LI))).2).drop (rule).toNat).getD ((0 : Int)).toNat (0 : Int)), (fromv, over)))).getD (0 : Int)) c5) ∧ ((mget c5 ((-1 : Int), (((((c3.getD (c).toNat ((0 : Int), ([] : LI))).2).drop (rule).toNat).getD ((0 : Int)).toNat (0 : Int)), (fromv, over)))).isSome = false → Loop (σ := Int × Int × LK) (fun s X => VCc100_l1 c0 c3 R c rule fromv over K s.1 s.2.1 s.2.2 X) ((0 : Int), (0 : Int), c5))))))) ∧ ((decide (((((c3.getD (c).toNat ((0 : Int), ([] : LI))).2).drop (rule).toNat).length : Int) = (1 : Int))) = false → (((mget c5 (c, (rule, (fromv, over)))).isSome = true → K (((mget c5 (c, (rule, (fromv, over)))).getD (0 : Int)), c5)) ∧ ((mget c5 (c, (rule, (fromv, over)))).isSome = false → (InR (fromv + (1 : Int)) ∧ Loop (σ := Int × Int × LK) (fun s X => VCc100_l2 c0 c3 c4 R c rule fromv over K s.1 s.2.1 s.2.2 X) ((0 : Int), (fromv + (1 : Int)), c5))))))))))
set_option maxHeartbeats 4000000 in
theorem linkc100 (c0 : Int) (c1 : Int) (c2 : Int) (c3 : LR) (c4 : LI) (R : Int → Int → Int → Int → LK → (Int × LK → Prop) → Prop) (hR : ∀ (c : Int) (rule : Int) (fromv : Int) (over : Int) (c5 : LK) (K : Int × LK → Prop), R c rule fromv over c5 K → LCalls Try.prog 100 [70000, 70001] [70000] [e27_0 c0 c1 c2 c3 c4, e27_8 c5] [.c (.ptr 70000 0), .c (.pI c), .c (.pI rule), .agg [.pI fromv, .pI over]] (fun av hp' => ∃ y : Int × LK, av = .v (.c (.pI y.1)) ∧ hp' = [e27_0 c0 c1 c2 c3 c4, (70001, [], .dict (.pr tI t3) tI y.2)] ∧ K y)) (c : Int) (rule : Int) (fromv : Int) (over : Int) (c5 : LK) (K : Int × LK → Prop) (h : VCc100 c0 c1 c2 c3 c4 R c rule fromv over c5 K) : LCalls Try.prog 100 [70000, 70001] [70000] [e27_0 c0 c1 c2 c3 c4, e27_8 c5] [.c (.ptr 70000 0), .c (.pI c), .c (.pI rule), .agg [.pI fromv, .pI over]] (fun av hp' => ∃ y : Int × LK, av = .v (.c (.pI y.1)) ∧ hp' = [e27_0 c0 c1 c2 c3 c4, (70001, [], .dict (.pr tI t3) tI y.2)] ∧ K y) := by
 refine lcalls_of_aw [70000, 70001] [70000] [.t 8] Try.func100 rfl rfl (by kernel_rfl) (by kernel_rfl) (by kernel_rfl) ?_
 refine aw_conv [] (st' := (⟨99, [e27_12, sI 1 c, sI 2 rule, sA 3 [.pI fromv, .pI over], e27_18], [e27_0 c0 c1 c2 c3 c4, e27_8 c5]⟩ : St)) (by kernel_rfl) ?_
 unfold VCc100 at h
 refine sr ?_
 refine rqT 2 ⟨99, [e27_12, sI 1 c, sI 2 rule, sp 7 7, e27_18], [e27_27 fromv over, e27_0 c0 c1 c2 c3 c4, e27_8 c5]⟩ (by kernel_rfl) ?_
 refine nsr ?_
 obtain ⟨o1, o2, h⟩ := h
 refine rq 12 (ob := (Ts 6 (inIdx c c3.length ∧ Ts 3 ((0 ≤ rule ∧ rule ≤ (((c3.getD (c).toNat ((0 : Int), ([] : LI))).2).length : Int)) ∧ Ts 1 True)))) (st' := (⟨99, [e27_12, sI 1 c, sI 2 rule, sp 7 7, e27_6 c3 c rule, e27_18], [e27_27 fromv over, e27_0 c0 c1 c2 c3 c4, e27_8 c5]⟩ : St)) (by kernel_rfl) (tsI 6 (⟨o1, tsI 3 ⟨o2, tsI 1 trivial⟩⟩)) ?_
 refine nn ?_
 refine aw_seq ?_
 refine sr ?_
 obtain ⟨o1, h⟩ := h
 refine rq 8 (ob := (Ts 4 (InR (over - fromv) ∧ Ts 3 True))) (st' := (⟨99, [e27_12, sI 1 c, sI 2 rule, sp 7 7, e27_6 c3 c rule, sB 34 (decide ((over - fromv) < ((((c3.getD (c).toNat ((0 : Int), ([] : LI))).2).drop (rule).toNat).length : Int))), e27_18], [e27_27 fromv over, e27_0 c0 c1 c2 c3 c4, e27_8 c5]⟩ : St)) (by kernel_rfl) (tsI 4 ⟨o1, tsI 3 trivial⟩) ?_
 refine nn ?_
 refine aw_cond (b := (decide ((over - fromv) < ((((c3.getD (c).toNat ((0 : Int), ([] : LI))).2).drop (rule).toNat).length : Int)))) (by kernel_rfl) (fun hb => ?_) (fun hb => ?_)
 ·have h := h.1 hb
  refine srn 1 ⟨99, [sI 8 (0 : Int), e27_18], [e27_0 c0 c1 c2 c3 c4, e27_8 c5]⟩ (by kernel_rfl) rfl ?_
  refine aw_ret ?_
  refine thenQ_r ?_
  exact lret_r (σ := Int × LK) (A := fun y => .v (.c (.pI y.1))) (H := fun y => [e27_0 c0 c1 c2 c3 c4, (70001, [], .dict (.pr tI t3) tI y.2)]) (ob := True) ((0 : Int), c5) (by kernel_rfl) trivial rfl (by kernel_rfl) (by kernel_rfl) (by kernel_rfl) h
 ·have h := h.2 hb
  refine aw_skip ?_
  refine thenQ_n ?_
  refine aw_seq ?_
  refine srn 3 ⟨99, [e27_12, sI 1 c, sI 2 rule, sp 7 7, e27_6 c3 c rule, e27_30 c3 c rule, e27_18], [e27_27 fromv over, e27_0 c0 c1 c2 c3 c4, e27_8 c5]⟩ (by kernel_rfl) rfl ?_
  refine aw_cond (b := (decide (((((c3.getD (c).toNat ((0 : Int), ([] : LI))).2).drop (rule).toNat).length : Int) = (1 : Int)))) (by kernel_rfl) (fun hb => ?_) (fun hb => ?_)
  ·have h := h.1 hb
   refine aw_seq ?_
   refine aw_conv [.ren 7 30000] (st' := (⟨99, [e27_12, sI 1 c, sI 2 rule, sp 7 30000, e27_6 c3 c rule, e27_30 c3 c rule, e27_18], [hB 30000 [.pI fromv, .pI over], e27_0 c0 c1 c2 c3 c4, e27_8 c5]⟩ : St)) (by kernel_rfl) ?_
   refine awd_begin [70000, 70001] (by kernel_rfl) ?_
   obtain ⟨o1, h⟩ := h
   refine drq (by kernel_rfl) [0, 1, 2, 3, 4] (ob := (Ts 2 (inIdx (0 : Int) (((c3.getD (c).toNat ((0 : Int), ([] : LI))).2).drop (rule).toNat).length ∧ Ts 2 True))) (done' := [4, 3, 2, 1, 0]) (st' := (⟨99, [sp 38 70000, sI 41 ((((c3.getD (c).toNat ((0 : Int), ([] : LI))).2).drop (rule).toNat).getD ((0 : Int)).toNat (0 : Int)), sA 42 [.pI fromv, .pI over], e27_18], [e27_0 c0 c1 c2 c3 c4, e27_8 c5]⟩ : St)) (by kernel_rfl) (tsI 2 ⟨o1, tsI 2 trivial⟩) ?_
   refine awd_one (i := 5) (by kernel_rfl) ?_
   refine adop_inlr [.t 6] [.c (.ptr 70000 0), .c (.pI ((((c3.getD (c).toNat ((0 : Int), ([] : LI))).2).drop (rule).toNat).getD ((0 : Int)).toNat (0 : Int))), .agg [.pI fromv, .pI over]] [] rfl rfl rfl (by kernel_rfl) rfl (by kernel_rfl) Try.call86 (by kernel_rfl) (by kernel_rfl) Try.func86 rfl rfl (by kernel_rfl) ?_
   refine aw_conv [] (st' := (⟨87, [e27_12, e27_1 c3 c rule, sA 2 [.pI fromv, .pI over], sp 125 70000, sI 128 ((((c3.getD (c).toNat ((0 : Int), ([] : LI))).2).drop (rule).toNat).getD ((0 : Int)).toNat (0 : Int)), sA 129 [.pI fromv, .pI over], e27_13], [e27_0 c0 c1 c2 c3 c4, e27_8 c5]⟩ : St)) (by kernel_rfl) ?_
   refine withJoinR (σ := Int × LK) (fun s => (⟨87, [sI 6 s.1, e27_13], [e27_0 c0 c1 c2 c3 c4, (70001, [], .dict (.pr tI t3) tI s.2)]⟩ : St)) (fun s => VCc100_k1 K s.1 s.2) (fun s h => ?_) (fun rest1 => ?_)
   ·obtain ⟨v6, l70001⟩ := s
    have h : VCc100_k1 K v6 l70001 := h
    unfold VCc100_k1 at h
    refine inlR_n (ob := True) (.v (.c (.pI v6))) (by kernel_rfl) trivial rfl ?_
    refine dpr (st' := (⟨99, [sI 43 v6, e27_18], [e27_0 c0 c1 c2 c3 c4, e27_7 l70001]⟩ : St)) (by kernel_rfl) ?_
    refine drq (by kernel_rfl) [6] (ob := (Ts 1 True)) (done' := [6, 5, 4, 3, 2, 1, 0]) (st' := (⟨99, [sI 8 v6, e27_18], [e27_0 c0 c1 c2 c3 c4, e27_7 l70001]⟩ : St)) (by kernel_rfl) (tsI 1 trivial) ?_
    refine awd_done (by kernel_rfl) ?_
    refine thenQ_n ?_
    refine aw_ret ?_
    refine thenQ_r ?_
    exact lret_r (σ := Int × LK) (A := fun y => .v (.c (.pI y.1))) (H := fun y => [e27_0 c0 c1 c2 c3 c4, (70001, [], .dict (.pr tI t3) tI y.2)]) (ob := True) (v6, l70001) (by kernel_rfl) trivial rfl (by kernel_rfl) (by kernel_rfl) (by kernel_rfl) h
   ·refine srn 2 ⟨87, [e27_12, e27_1 c3 c rule, sp 5 5, e27_13], [e27_16 fromv over, e27_0 c0 c1 c2 c3 c4, e27_8 c5]⟩ (by kernel_rfl) rfl ?_
    refine aw_seq ?_
    refine srn 7 ⟨87, [e27_12, e27_1 c3 c rule, sp 5 5, e27_28 c3 c rule c0, e27_13], [e27_16 fromv over, e27_0 c0 c1 c2 c3 c4, e27_8 c5]⟩ (by kernel_rfl) rfl ?_
    refine aw_cond (b := (decide (((((c3.getD (c).toNat ((0 : Int), ([] : LI))).2).drop (rule).toNat).getD ((0 : Int)).toNat (0 : Int)) < c0))) (by kernel_rfl) (fun hb => ?_) (fun hb => ?_)
    ·have h := h.1 hb
     refine aw_seq ?_
     refine aw_seq ?_
     refine awd_begin [] (by kernel_rfl) ?_
     obtain ⟨o1, o2, h⟩ := h
     refine drq (by kernel_rfl) e27_n0 (ob := (Ts 4 (InR (fromv + (1 : Int)) ∧ Ts 2 (Ti 6 ((decide (over = (fromv + (1 : Int)))) = true → True) (((decide (over = (fromv + (1 : Int)))) = true → inIdx fromv c4.length) ∧ Ti 3 ((decide (over = (fromv + (1 : Int)))) = true → True) (Ts 1 True)))))) (done' := e27_n1) (st' := (⟨87, [sB 37 ((decide (over = (fromv + (1 : Int)))) && (decide ((c4.getD (fromv).toNat (0 : Int)) = ((((c3.getD (c).toNat ((0 : Int), ([] : LI))).2).drop (rule).toNat).getD ((0 : Int)).toNat (0 : Int))))), e27_13], [e27_0 c0 c1 c2 c3 c4, e27_8 c5]⟩ : St)) (by kernel_rfl) (tsI 4 (⟨o1, tsI 2 (tiI 6 (fun _ => trivial) ⟨o2, tiI 3 (fun _ => trivial) (tsI 1 trivial)⟩)⟩)) ?_
     refine awd_done (by kernel_rfl) ?_
     refine thenQ_n ?_
     refine aw_cond (b := ((decide (over = (fromv + (1 : Int)))) && (decide ((c4.getD (fromv).toNat (0 : Int)) = ((((c3.getD (c).toNat ((0 : Int), ([] : LI))).2).drop (rule).toNat).getD ((0 : Int)).toNat (0 : Int)))))) (by kernel_rfl) (fun hb => ?_) (fun hb => ?_)
     ·have h := h.1 hb
      refine srn 1 ⟨87, [sI 6 (1 : Int), e27_13], [e27_0 c0 c1 c2 c3 c4, e27_8 c5]⟩ (by kernel_rfl) rfl ?_
      refine aw_ret ?_
      refine thenQ_r ?_
      refine thenQ_r ?_
      exact rest1 ((1 : Int), c5) h
     ·have h := h.2 hb
      refine aw_skip ?_
      refine thenQ_n ?_
      refine srn 1 ⟨87, [sI 6 (0 : Int), e27_13], [e27_0 c0 c1 c2 c3 c4, e27_8 c5]⟩ (by kernel_rfl) rfl ?_
      refine aw_ret ?_
      refine thenQ_r ?_
      exact rest1 ((0 : Int), c5) h
    ·have h := h.2 hb
     refine aw_skip ?_
     refine thenQ_n ?_
     refine srn 5 ⟨87, [e27_12, e27_1 c3 c rule, sp 5 5, sp 7 7, e27_13], [e27_16 fromv over, e27_2 c3 c rule fromv over, e27_0 c0 c1 c2 c3 c4, e27_8 c5]⟩ (by kernel_rfl) rfl ?_
     refine aw_seq ?_
     refine aw_seq ?_
     refine awd_begin [] (by kernel_rfl) ?_
     refine drq (by kernel_rfl) e27_n2 (ob := (Ts 11 True)) (done' := e27_n3) (st' := (⟨87, [e27_12, e27_1 c3 c rule, sp 5 5, sp 7 7, sI 8 ((mget c5 ((-1 : Int), (((((c3.getD (c).toNat ((0 : Int), ([] : LI))).2).drop (rule).toNat).getD ((0 : Int)).toNat (0 : Int)), (fromv, over)))).getD (0 : Int)), sB 9 ((mget c5 ((-1 : Int), (((((c3.getD (c).toNat ((0 : Int), ([] : LI))).2).drop (rule).toNat).getD ((0 : Int)).toNat (0 : Int)), (fromv, over)))).isSome), e27_13], [e27_16 fromv over, e27_2 c3 c rule fromv over, e27_0 c0 c1 c2 c3 c4, e27_8 c5]⟩ : St)) (by kernel_rfl) (tsI 11 trivial) ?_
     refine awd_done (by kernel_rfl) ?_
     refine thenQ_n ?_
     refine srn 1 ⟨87, [e27_12, e27_1 c3 c rule, sp 5 5, sp 7 7, sI 8 ((mget c5 ((-1 : Int), (((((c3.getD (c).toNat ((0 : Int), ([] : LI))).2).drop (rule).toNat).getD ((0 : Int)).toNat (0 : Int)), (fromv, over)))).getD (0 : Int)), sB 50 ((mget c5 ((-1 : Int), (((((c3.getD (c).toNat ((0 : Int), ([] : LI))).2).drop (rule).toNat).getD ((0 : Int)).toNat (0 : Int)), (fromv, over)))).isSome), e27_13], [e27_16 fromv over, e27_2 c3 c rule fromv over, e27_0 c0 c1 c2 c3 c4, e27_8 c5]⟩ (by kernel_rfl) rfl ?_
     refine aw_cond (b := (mget c5 ((-1 : Int), (((((c3.getD (c).toNat ((0 : Int), ([] : LI))).2).drop (rule).toNat).getD ((0 : Int)).toNat (0 : Int)), (fromv, over)))).isSome) (by kernel_rfl) (fun hb => ?_) (fun hb => ?_)
     ·have h := h.1 hb
      refine srn 2 ⟨87, [sI 6 ((mget c5 ((-1 : Int), (((((c3.getD (c).toNat ((0 : Int), ([] : LI))).2).drop (rule).toNat).getD ((0 : Int)).toNat (0 : Int)), (fromv, over)))).getD (0 : Int)), e27_13], [e27_0 c0 c1 c2 c3 c4, e27_8 c5]⟩ (by kernel_rfl) rfl ?_
      refine aw_ret ?_
      refine thenQ_r ?_
      exact rest1 (((mget c5 ((-1 : Int), (((((c3.getD (c).toNat ((0 : Int), ([] : LI))).2).drop (rule).toNat).getD ((0 : Int)).toNat (0 : Int)), (fromv, over)))).getD (0 : Int)), c5) h
     ·have h := h.2 hb
      refine aw_skip ?_
      refine thenQ_n ?_
      refine srn 1 ⟨87, [e27_12, e27_1 c3 c rule, sp 5 5, sp 7 7, sI 10 (0 : Int), e27_13], [e27_16 fromv over, e27_2 c3 c rule fromv over, e27_0 c0 c1 c2 c3 c4, e27_8 c5]⟩ (by kernel_rfl) rfl ?_
      refine aw_seq ?_
      refine srn 7 ⟨87, [e27_12, e27_1 c3 c rule, sp 5 5, sp 7 7, sI 10 (0 : Int), e27_9 c3, e27_15 c3, sI 58 (0 : Int), e27_13], [e27_16 fromv over, e27_2 c3 c rule fromv over, e27_0 c0 c1 c2 c3 c4, e27_8 c5]⟩ (by kernel_rfl) rfl ?_
      refine withJoin (σ := Int × LK) (fun s => (⟨87, [e27_12, sp 7 7, sI 10 s.1, e27_13], [e27_2 c3 c rule fromv over, e27_0 c0 c1 c2 c3 c4, (70001, [], .dict (.pr tI t3) tI s.2)]⟩ : St)) (fun s => VCc100_k2 c3 c rule fromv over K s.1 s.2) (fun s h => ?_) (fun rest2 => ?_)
      ·obtain ⟨n, l70001⟩ := s
       have h : VCc100_k2 c3 c rule fromv over K n l70001 := h
       unfold VCc100_k2 at h
       refine thenQ_n ?_
       refine aw_seq ?_
       refine awd_begin [70001] (by kernel_rfl) ?_
       refine drq (by kernel_rfl) [0, 1, 2, 3, 4, 5] (ob := (Ts 6 True)) (done' := [5, 4, 3, 2, 1, 0]) (st' := (⟨87, [sI 10 n, s1 83 (.own 70001), sA 84 [.pI (-1 : Int), .pI ((((c3.getD (c).toNat ((0 : Int), ([] : LI))).2).drop (rule).toNat).getD ((0 : Int)).toNat (0 : Int)), .pI fromv, .pI over], sI 85 n, e27_13], [e27_0 c0 c1 c2 c3 c4, e27_7 l70001]⟩ : St)) (by kernel_rfl) (tsI 6 trivial) ?_
       refine awd_one (i := 6) (by kernel_rfl) ?_
       refine dsq (ob := True) (st' := (⟨87, [sI 10 n, e27_13], [e27_0 c0 c1 c2 c3 c4, (70001, [], .dict (.pr tI t3) tI (mset l70001 ((-1 : Int), (((((c3.getD (c).toNat ((0 : Int), ([] : LI))).2).drop (rule).toNat).getD ((0 : Int)).toNat (0 : Int)), (fromv, over))) n))]⟩ : St)) rfl (by kernel_rfl) trivial ?_
       refine awd_done (by kernel_rfl) ?_
       refine thenQ_n ?_
       refine srn 2 ⟨87, [sI 6 n, e27_13], [e27_0 c0 c1 c2 c3 c4, (70001, [], .dict (.pr tI t3) tI (mset l70001 ((-1 : Int), (((((c3.getD (c).toNat ((0 : Int), ([] : LI))).2).drop (rule).toNat).getD ((0 : Int)).toNat (0 : Int)), (fromv, over))) n))]⟩ (by kernel_rfl) rfl ?_
       refine aw_ret ?_
       exact rest1 (n, (mset l70001 ((-1 : Int), (((((c3.getD (c).toNat ((0 : Int), ([] : LI))).2).drop (rule).toNat).getD ((0 : Int)).toNat (0 : Int)), (fromv, over))) n)) h
      ·refine aw_block ?_
       refine aw_loop (σ := Int × Int × LK) (fun s => (⟨87, [e27_12, e27_1 c3 c rule, sp 5 5, sp 7 7, sI 10 s.1, e27_9 c3, e27_15 c3, sI 58 s.2.1, e27_13], [e27_16 fromv over, e27_2 c3 c rule fromv over, e27_0 c0 c1 c2 c3 c4, (70001, [], .dict (.pr tI t3) tI s.2.2)]⟩ : St)) (fun s X => VCc100_l1 c0 c3 R c rule fromv over K s.1 s.2.1 s.2.2 X) (s0 := ((0 : Int), (0 : Int), c5)) (fun s X1 h => ?_) h
       obtain ⟨n, v58, l70001⟩ := s
       have h : VCc100_l1 c0 c3 R c rule fromv over K n v58 l70001 X1 := h
       unfold VCc100_l1 at h
       refine srn 1 ⟨87, [e27_12, e27_1 c3 c rule, sp 5 5, sp 7 7, sI 10 n, e27_9 c3, e27_15 c3, sI 58 v58, sB 59 (decide (v58 < (c3.length : Int))), e27_13], [e27_16 fromv over, e27_2 c3 c rule fromv over, e27_0 c0 c1 c2 c3 c4, e27_7 l70001]⟩ (by kernel_rfl) rfl ?_
       refine aw_seq ?_
       refine aw_cond (b := (decide (v58 < (c3.length : Int)))) (by kernel_rfl) (fun hb => ?_) (fun hb => ?_)
       ·have h := h.1 hb
        refine aw_skip ?_
        refine thenQ_n ?_
        refine aw_seq ?_
        refine aw_block ?_
        refine sr ?_
        obtain ⟨o1, h⟩ := h
        refine rq 6 (ob := (Ts 1 (inIdx v58 c3.length ∧ Ts 4 True))) (st' := (⟨87, [e27_12, e27_1 c3 c rule, sp 5 5, sp 7 7, sI 10 n, sI 11 v58, sp 12 12, e27_9 c3, e27_15 c3, sI 58 v58, e27_13], [e27_16 fromv over, e27_2 c3 c rule fromv over, e27_29 c3 v58, e27_0 c0 c1 c2 c3 c4, e27_7 l70001]⟩ : St)) (by kernel_rfl) (tsI 1 ⟨o1, tsI 4 trivial⟩) ?_
        refine nn ?_
        refine aw_seq ?_
        refine awd_begin [] (by kernel_rfl) ?_
        obtain ⟨o1, h⟩ := h
        refine drq (by kernel_rfl) [0, 1, 2, 3, 4, 5, 6, 7, 8, 9] (ob := (Ts 8 (InR (((((c3.getD (c).toNat ((0 : Int), ([] : LI))).2).drop (rule).toNat).getD ((0 : Int)).toNat (0 : Int)) - c0) ∧ Ts 1 True))) (done' := [9, 8, 7, 6, 5, 4, 3, 2, 1, 0]) (st' := (⟨87, [e27_12, e27_1 c3 c rule, sp 5 5, sp 7 7, sI 10 n, sI 11 v58, e27_9 c3, e27_15 c3, sI 58 v58, e27_22 c3 v58 c rule c0, e27_13], [e27_16 fromv over, e27_2 c3 c rule fromv over, e27_0 c0 c1 c2 c3 c4, e27_7 l70001]⟩ : St)) (by kernel_rfl) (tsI 8 ⟨o1, tsI 1 trivial⟩) ?_
        refine awd_done (by kernel_rfl) ?_
        refine thenQ_n ?_
        refine withJoin (σ := Int × LK) (fun s => (⟨87, [e27_12, e27_1 c3 c rule, sp 5 5, sp 7 7, sI 10 s.1, e27_9 c3, e27_15 c3, sI 58 v58, e27_13], [e27_16 fromv over, e27_2 c3 c rule fromv over, e27_0 c0 c1 c2 c3 c4, (70001, [], .dict (.pr tI t3) tI s.2)]⟩ : St)) (fun s => VCc100_k3 v58 X1 s.1 s.2) (fun s h => ?_) (fun rest3 => ?_)
        ·obtain ⟨n2, l700012⟩ := s
         have h : VCc100_k3 v58 X1 n2 l700012 := h
         unfold VCc100_k3 at h
         refine blockQ_n ?_
         refine thenQ_n ?_
         refine aw_region ?_
         obtain ⟨o1, h⟩ := h
         refine rq 2 (ob := (InR (v58 + (1 : Int)) ∧ Ts 1 True)) (st' := (⟨87, [e27_12, e27_1 c3 c rule, sp 5 5, sp 7 7, sI 10 n2, e27_9 c3, e27_15 c3, sI 58 (v58 + (1 : Int)), e27_13], [e27_16 fromv over, e27_2 c3 c rule fromv over, e27_0 c0 c1 c2 c3 c4, e27_11 l700012]⟩ : St)) (by kernel_rfl) (⟨o1, tsI 1 trivial⟩) ?_
         refine awl_nil ?_
         exact thenQ_n ⟨(n2, (v58 + (1 : Int)), l700012), rfl, h⟩
        ·refine aw_cond (b := (decide ((c3.getD (v58).toNat ((0 : Int), ([] : LI))).1 = (((((c3.getD (c).toNat ((0 : Int), ([] : LI))).2).drop (rule).toNat).getD ((0 : Int)).toNat (0 : Int)) - c0)))) (by kernel_rfl) (fun hb => ?_) (fun hb => ?_)
         ·have h := h.1 hb
          refine aw_region ?_
          refine rqT 4 ⟨87, [e27_12, e27_1 c3 c rule, sp 5 5, sp 7 7, e27_9 c3, e27_15 c3, sI 58 v58, sI 73 n, sp 74 70000, sI 75 v58, sA 76 [.pI fromv, .pI over], e27_13], [e27_16 fromv over, e27_2 c3 c rule fromv over, e27_0 c0 c1 c2 c3 c4, e27_7 l70001]⟩ (by kernel_rfl) ?_
          refine awl_lcall (σ := Int × LK) [70000, 70001] [70000] [.c (.ptr 70000 0), .c (.pI v58), .c (.pI (0 : Int)), .agg [.pI fromv, .pI over]] [] (fun ret77v => .v (.c (.pI ret77v.1))) (fun ret77v => [e27_0 c0 c1 c2 c3 c4, e27_14 ret77v]) (_) [e27_0 c0 c1 c2 c3 c4, e27_7 l70001] (fun ret77v => (⟨87, [sI 77 ret77v.1, e27_12, e27_1 c3 c rule, sp 5 5, sp 7 7, e27_9 c3, e27_15 c3, sI 58 v58, sI 73 n, sp 74 70000, sI 75 v58, sA 76 [.pI fromv, .pI over], e27_13], [e27_0 c0 c1 c2 c3 c4, e27_14 ret77v, e27_16 fromv over, e27_2 c3 c rule fromv over]⟩ : St)) rfl rfl (by kernel_rfl) rfl (by kernel_rfl) Try.call100 (by kernel_rfl) (by kernel_rfl) (by kernel_rfl) (fun _ _ => rfl) (fun _ => by kernel_rfl) (hR v58 (0 : Int) fromv over l70001 _ h) (fun ret77v h => ?_)
          refine lpr (st' := (⟨87, [e27_12, e27_1 c3 c rule, sp 5 5, sp 7 7, e27_9 c3, e27_15 c3, sI 58 v58, sI 73 n, sI 77 ret77v.1, e27_13], [e27_16 fromv over, e27_2 c3 c rule fromv over, e27_0 c0 c1 c2 c3 c4, e27_14 ret77v]⟩ : St)) (by kernel_rfl) ?_
          refine lcq (d := 78) [.d tI, .d tI] (fun ret78v => (⟨87, [e27_12, e27_1 c3 c rule, sp 5 5, sp 7 7, e27_9 c3, e27_15 c3, sI 58 v58, sI 78 ret78v, e27_13], [e27_16 fromv over, e27_2 c3 c rule fromv over, e27_0 c0 c1 c2 c3 c4, e27_14 ret77v]⟩ : St)) (by kernel_rfl) Try.call109 (fun _ => by kernel_rfl) (link109 n ret77v.1 _ h) (fun ret78v h => ?_)
          refine rqT 1 ⟨87, [e27_12, e27_1 c3 c rule, sp 5 5, sp 7 7, sI 10 ret78v, e27_9 c3, e27_15 c3, sI 58 v58, e27_13], [e27_16 fromv over, e27_2 c3 c rule fromv over, e27_0 c0 c1 c2 c3 c4, e27_14 ret77v]⟩ (by kernel_rfl) ?_
          refine awl_nil ?_
          exact rest3 (ret78v, ret77v.2) h
         ·have h := h.2 hb
          refine cpr (st' := (⟨87, [e27_12, e27_1 c3 c rule, sp 5 5, sp 7 7, sI 10 n, e27_9 c3, e27_15 c3, sI 58 v58, e27_13], [e27_16 fromv over, e27_2 c3 c rule fromv over, e27_0 c0 c1 c2 c3 c4, e27_7 l70001]⟩ : St)) (by kernel_rfl) ?_
          refine aw_skip ?_
          exact rest3 (n, l70001) h
       ·have h := h.2 hb
        refine cpr (st' := (⟨87, [e27_12, sp 7 7, sI 10 n, e27_13], [e27_2 c3 c rule fromv over, e27_0 c0 c1 c2 c3 c4, e27_7 l70001]⟩ : St)) (by kernel_rfl) ?_
        refine aw_exit ?_
        refine thenQ_x ?_
        refine thenQ_x ?_
        refine blockQ_hit ?_
        exact rest2 (n, l70001) h
  ·have h := h.2 hb
   refine aw_skip ?_
   refine thenQ_n ?_
   refine srn 6 ⟨99, [e27_12, sI 1 c, sI 2 rule, sp 7 7, e27_6 c3 c rule, sp 10 10, e27_18], [e27_27 fromv over, e27_19 c rule fromv over, e27_0 c0 c1 c2 c3 c4, e27_8 c5]⟩ (by kernel_rfl) rfl ?_
   refine aw_seq ?_
   refine aw_seq ?_
   refine awd_begin [] (by kernel_rfl) ?_
   refine drq (by kernel_rfl) e27_n2 (ob := (Ts 11 True)) (done' := e27_n3) (st' := (⟨99, [e27_12, sI 1 c, sI 2 rule, sp 7 7, e27_6 c3 c rule, sp 10 10, sI 11 ((mget c5 (c, (rule, (fromv, over)))).getD (0 : Int)), sB 12 ((mget c5 (c, (rule, (fromv, over)))).isSome), e27_18], [e27_27 fromv over, e27_19 c rule fromv over, e27_0 c0 c1 c2 c3 c4, e27_8 c5]⟩ : St)) (by kernel_rfl) (tsI 11 trivial) ?_
   refine awd_done (by kernel_rfl) ?_
   refine thenQ_n ?_
   refine srn 1 ⟨99, [e27_12, sI 1 c, sI 2 rule, sp 7 7, e27_6 c3 c rule, sp 10 10, sI 11 ((mget c5 (c, (rule, (fromv, over)))).getD (0 : Int)), sB 57 ((mget c5 (c, (rule, (fromv, over)))).isSome), e27_18], [e27_27 fromv over, e27_19 c rule fromv over, e27_0 c0 c1 c2 c3 c4, e27_8 c5]⟩ (by kernel_rfl) rfl ?_
   refine aw_cond (b := (mget c5 (c, (rule, (fromv, over)))).isSome) (by kernel_rfl) (fun hb => ?_) (fun hb => ?_)
   ·have h := h.1 hb
    refine srn 2 ⟨99, [sI 8 ((mget c5 (c, (rule, (fromv, over)))).getD (0 : Int)), e27_18], [e27_0 c0 c1 c2 c3 c4, e27_8 c5]⟩ (by kernel_rfl) rfl ?_
    refine aw_ret ?_
    refine thenQ_r ?_
    exact lret_r (σ := Int × LK) (A := fun y => .v (.c (.pI y.1))) (H := fun y => [e27_0 c0 c1 c2 c3 c4, (70001, [], .dict (.pr tI t3) tI y.2)]) (ob := True) (((mget c5 (c, (rule, (fromv, over)))).getD (0 : Int)), c5) (by kernel_rfl) trivial rfl (by kernel_rfl) (by kernel_rfl) (by kernel_rfl) h
   ·have h := h.2 hb
    refine aw_skip ?_
    refine thenQ_n ?_
    refine srn 1 ⟨99, [e27_12, sI 1 c, sI 2 rule, sp 7 7, e27_6 c3 c rule, sp 10 10, sI 13 (0 : Int), e27_18], [e27_27 fromv over, e27_19 c rule fromv over, e27_0 c0 c1 c2 c3 c4, e27_8 c5]⟩ (by kernel_rfl) rfl ?_
    refine aw_seq ?_
    refine sr ?_
    obtain ⟨o1, h⟩ := h
    refine rq 4 (ob := (Ts 2 (InR (fromv + (1 : Int)) ∧ Ts 1 True))) (st' := (⟨99, [e27_12, sI 1 c, sI 2 rule, sp 7 7, e27_6 c3 c rule, sp 10 10, sI 13 (0 : Int), sI 14 (fromv + (1 : Int)), e27_18], [e27_27 fromv over, e27_19 c rule fromv over, e27_0 c0 c1 c2 c3 c4, e27_8 c5]⟩ : St)) (by kernel_rfl) (tsI 2 ⟨o1, tsI 1 trivial⟩) ?_
    refine nn ?_
    refine withJoin (σ := Int × LK) (fun s => (⟨99, [e27_12, sp 10 10, sI 13 s.1, e27_18], [e27_19 c rule fromv over, e27_0 c0 c1 c2 c3 c4, (70001, [], .dict (.pr tI t3) tI s.2)]⟩ : St)) (fun s => VCc100_k4 c rule fromv over K s.1 s.2) (fun s h => ?_) (fun rest4 => ?_)
    ·obtain ⟨n, l70001⟩ := s
     have h : VCc100_k4 c rule fromv over K n l70001 := h
     unfold VCc100_k4 at h
     refine thenQ_n ?_
     refine aw_seq ?_
     refine awd_begin [70001] (by kernel_rfl) ?_
     refine drq (by kernel_rfl) [0, 1, 2, 3, 4, 5] (ob := (Ts 6 True)) (done' := [5, 4, 3, 2, 1, 0]) (st' := (⟨99, [sI 13 n, s1 95 (.own 70001), sA 96 [.pI c, .pI rule, .pI fromv, .pI over], sI 97 n, e27_18], [e27_0 c0 c1 c2 c3 c4, e27_7 l70001]⟩ : St)) (by kernel_rfl) (tsI 6 trivial) ?_
     refine awd_one (i := 6) (by kernel_rfl) ?_
     refine dsq (ob := True) (st' := (⟨99, [sI 13 n, e27_18], [e27_0 c0 c1 c2 c3 c4, (70001, [], .dict (.pr tI t3) tI (mset l70001 (c, (rule, (fromv, over))) n))]⟩ : St)) rfl (by kernel_rfl) trivial ?_
     refine awd_done (by kernel_rfl) ?_
     refine thenQ_n ?_
     refine srn 2 ⟨99, [sI 8 n, e27_18], [e27_0 c0 c1 c2 c3 c4, (70001, [], .dict (.pr tI t3) tI (mset l70001 (c, (rule, (fromv, over))) n))]⟩ (by kernel_rfl) rfl ?_
     refine aw_ret ?_
     exact lret_r (σ := Int × LK) (A := fun y => .v (.c (.pI y.1))) (H := fun y => [e27_0 c0 c1 c2 c3 c4, (70001, [], .dict (.pr tI t3) tI y.2)]) (ob := True) (n, (mset l70001 (c, (rule, (fromv, over))) n)) (by kernel_rfl) trivial rfl (by kernel_rfl) (by kernel_rfl) (by kernel_rfl) h
    ·refine aw_block ?_
     refine aw_loop (σ := Int × Int × LK) (fun s => (⟨99, [e27_12, sI 1 c, sI 2 rule, sp 7 7, e27_6 c3 c rule, sp 10 10, sI 13 s.1, sI 14 s.2.1, e27_18], [e27_27 fromv over, e27_19 c rule fromv over, e27_0 c0 c1 c2 c3 c4, (70001, [], .dict (.pr tI t3) tI s.2.2)]⟩ : St)) (fun s X => VCc100_l2 c0 c3 c4 R c rule fromv over K s.1 s.2.1 s.2.2 X) (s0 := ((0 : Int), (fromv + (1 : Int)), c5)) (fun s X2 h => ?_) h
     obtain ⟨n, endv, l70001⟩ := s
     have h : VCc100_l2 c0 c3 c4 R c rule fromv over K n endv l70001 X2 := h
     unfold VCc100_l2 at h
     refine aw_seq ?_
     refine srn 4 ⟨99, [e27_12, sI 1 c, sI 2 rule, sp 7 7, e27_6 c3 c rule, sp 10 10, sI 13 n, sI 14 endv, sB 65 (decide (endv < over)), e27_18], [e27_27 fromv over, e27_19 c rule fromv over, e27_0 c0 c1 c2 c3 c4, e27_7 l70001]⟩ (by kernel_rfl) rfl ?_
     refine aw_cond (b := (decide (endv < over))) (by kernel_rfl) (fun hb => ?_) (fun hb => ?_)
     ·have h := h.1 hb
      refine aw_skip ?_
      refine thenQ_n ?_
      refine aw_seq ?_
      refine aw_block ?_
      refine aw_seq ?_
      refine aw_conv [.ren 7 30100, .ren 10 30101] (st' := (⟨99, [e27_12, sI 1 c, sI 2 rule, e27_33, e27_6 c3 c rule, e27_32, sI 13 n, sI 14 endv, sB 65 (decide (endv < over)), e27_18], [e27_10 fromv over, e27_5 c rule fromv over, e27_0 c0 c1 c2 c3 c4, e27_7 l70001]⟩ : St)) (by kernel_rfl) ?_
      refine awd_begin [30100, 30101, 70000, 70001] (by kernel_rfl) ?_
      obtain ⟨o1, h⟩ := h
      refine drq (by kernel_rfl) [0, 1, 2, 3, 4, 6] (ob := (Ts 2 (inIdx (0 : Int) (((c3.getD (c).toNat ((0 : Int), ([] : LI))).2).drop (rule).toNat).length ∧ Ts 3 True))) (done' := [6, 4, 3, 2, 1, 0]) (st' := (⟨99, [e27_12, sI 1 c, sI 2 rule, e27_33, e27_6 c3 c rule, e27_32, sI 13 n, sI 14 endv, sp 68 70000, e27_26 c3 c rule, sp 72 30100, sI 74 endv, e27_18], [e27_10 fromv over, e27_5 c rule fromv over, e27_0 c0 c1 c2 c3 c4, e27_7 l70001]⟩ : St)) (by kernel_rfl) (tsI 2 ⟨o1, tsI 3 trivial⟩) ?_
      refine awd_one (i := 5) (by kernel_rfl) ?_
      refine dsq (ob := True) (st' := (⟨99, [e27_12, sI 1 c, sI 2 rule, e27_33, e27_6 c3 c rule, e27_32, sI 13 n, sI 14 endv, sp 68 70000, e27_26 c3 c rule, sI 73 fromv, sI 74 endv, e27_18], [e27_10 fromv over, e27_5 c rule fromv over, e27_0 c0 c1 c2 c3 c4, e27_7 l70001]⟩ : St)) rfl (by kernel_rfl) trivial ?_
      refine drq (by kernel_rfl) [7] (ob := (Ts 1 True)) (done' := [7, 5, 6, 4, 3, 2, 1, 0]) (st' := (⟨99, [e27_12, sI 1 c, sI 2 rule, e27_33, e27_6 c3 c rule, e27_32, sI 13 n, sI 14 endv, sp 68 70000, e27_26 c3 c rule, sA 75 [.pI fromv, .pI endv], e27_18], [e27_10 fromv over, e27_5 c rule fromv over, e27_0 c0 c1 c2 c3 c4, e27_7 l70001]⟩ : St)) (by kernel_rfl) (tsI 1 trivial) ?_
      refine awd_one (i := 8) (by kernel_rfl) ?_
      refine adop_inlr [.t 6] [.c (.ptr 70000 0), .c (.pI ((((c3.getD (c).toNat ((0 : Int), ([] : LI))).2).drop (rule).toNat).getD ((0 : Int)).toNat (0 : Int))), .agg [.pI fromv, .pI endv]] [] rfl rfl rfl (by kernel_rfl) rfl (by kernel_rfl) Try.call86 (by kernel_rfl) (by kernel_rfl) Try.func86 rfl rfl (by kernel_rfl) ?_
      refine aw_conv [] (st' := (⟨87, [e27_12, e27_1 c3 c rule, sA 2 [.pI fromv, .pI endv], e27_23, sI 88 c, sI 89 rule, e27_24, e27_4 c3 c rule, e27_25, sI 100 n, sI 101 endv, sp 155 70000, sI 158 ((((c3.getD (c).toNat ((0 : Int), ([] : LI))).2).drop (rule).toNat).getD ((0 : Int)).toNat (0 : Int)), sA 162 [.pI fromv, .pI endv], e27_13], [e27_10 fromv over, e27_5 c rule fromv over, e27_0 c0 c1 c2 c3 c4, e27_7 l70001]⟩ : St)) (by kernel_rfl) ?_
      refine withJoinR (σ := Int × LK) (fun s => (⟨87, [sI 6 s.1, e27_23, sI 88 c, sI 89 rule, e27_24, e27_4 c3 c rule, e27_25, sI 100 n, sI 101 endv, e27_13], [e27_10 fromv over, e27_5 c rule fromv over, e27_0 c0 c1 c2 c3 c4, (70001, [], .dict (.pr tI t3) tI s.2)]⟩ : St)) (fun s => VCc100_k5 R c rule over n endv X2 s.1 s.2) (fun s h => ?_) (fun rest6 => ?_)
      ·obtain ⟨v6, l700012⟩ := s
       have h : VCc100_k5 R c rule over n endv X2 v6 l700012 := h
       unfold VCc100_k5 at h
       refine inlR_n (ob := True) (.v (.c (.pI v6))) (by kernel_rfl) trivial rfl ?_
       refine dpr (st' := (⟨99, [e27_12, sI 1 c, sI 2 rule, e27_33, e27_6 c3 c rule, e27_32, sI 13 n, sI 14 endv, sI 76 v6, e27_18], [e27_10 fromv over, e27_5 c rule fromv over, e27_0 c0 c1 c2 c3 c4, e27_11 l700012]⟩ : St)) (by kernel_rfl) ?_
       refine drq (by kernel_rfl) [9] (ob := (Ts 1 True)) (done' := [9, 8, 7, 5, 6, 4, 3, 2, 1, 0]) (st' := (⟨99, [e27_12, sI 1 c, sI 2 rule, e27_33, e27_6 c3 c rule, e27_32, sI 13 n, sI 14 endv, sI 15 v6, e27_18], [e27_10 fromv over, e27_5 c rule fromv over, e27_0 c0 c1 c2 c3 c4, e27_11 l700012]⟩ : St)) (by kernel_rfl) (tsI 1 trivial) ?_
       refine awd_done (by kernel_rfl) ?_
       refine thenQ_n ?_
       refine srn 2 ⟨99, [e27_12, sI 1 c, sI 2 rule, e27_33, e27_6 c3 c rule, e27_32, sI 13 n, sI 14 endv, sI 15 v6, sB 78 (decide ((0 : Int) < v6)), e27_18], [e27_10 fromv over, e27_5 c rule fromv over, e27_0 c0 c1 c2 c3 c4, e27_11 l700012]⟩ (by kernel_rfl) rfl ?_
       refine withJoin (σ := Int × LK) (fun s => (⟨99, [e27_12, sI 1 c, sI 2 rule, e27_33, e27_6 c3 c rule, e27_32, sI 13 s.1, sI 14 endv, e27_18], [e27_10 fromv over, e27_5 c rule fromv over, e27_0 c0 c1 c2 c3 c4, (70001, [], .dict (.pr tI t3) tI s.2)]⟩ : St)) (fun s => VCc100_k6 endv X2 s.1 s.2) (fun s h => ?_) (fun rest5 => ?_)
       ·obtain ⟨n2, l700013⟩ := s
        have h : VCc100_k6 endv X2 n2 l700013 := h
        unfold VCc100_k6 at h
        refine blockQ_n ?_
        refine thenQ_n ?_
        refine aw_region ?_
        obtain ⟨o1, h⟩ := h
        refine rq 3 (ob := (Ts 1 (InR (endv + (1 : Int)) ∧ Ts 1 True))) (st' := (⟨99, [e27_12, sI 1 c, sI 2 rule, e27_33, e27_6 c3 c rule, e27_32, sI 13 n2, sI 14 (endv + (1 : Int)), e27_18], [e27_10 fromv over, e27_5 c rule fromv over, e27_0 c0 c1 c2 c3 c4, e27_31 l700013]⟩ : St)) (by kernel_rfl) (tsI 1 ⟨o1, tsI 1 trivial⟩) ?_
        refine awl_conv [.ren 30100 50100, .ren 30101 50101, .ren 50100 7, .ren 50101 10] (st' := (⟨99, [e27_12, sI 1 c, sI 2 rule, sp 7 7, e27_6 c3 c rule, sp 10 10, sI 13 n2, sI 14 (endv + (1 : Int)), e27_18], [e27_27 fromv over, e27_19 c rule fromv over, e27_0 c0 c1 c2 c3 c4, e27_31 l700013]⟩ : St)) (by kernel_rfl) ?_
        refine awl_nil ?_
        exact thenQ_n ⟨(n2, (endv + (1 : Int)), l700013), rfl, h⟩
       ·refine aw_cond (b := (decide ((0 : Int) < v6))) (by kernel_rfl) (fun hb => ?_) (fun hb => ?_)
        ·have h := h.1 hb
         refine aw_region ?_
         obtain ⟨o1, h⟩ := h
         refine rq 10 (ob := (Ts 5 (InR (rule + (1 : Int)) ∧ Ts 4 True))) (st' := (⟨99, [e27_12, sI 1 c, sI 2 rule, e27_33, e27_6 c3 c rule, e27_32, sI 14 endv, sI 79 n, sI 80 v6, sp 81 70000, sI 82 c, sI 84 (rule + (1 : Int)), sA 88 [.pI endv, .pI over], e27_18], [e27_10 fromv over, e27_5 c rule fromv over, e27_0 c0 c1 c2 c3 c4, e27_11 l700012]⟩ : St)) (by kernel_rfl) (tsI 5 ⟨o1, tsI 4 trivial⟩) ?_
         refine awl_lcall (σ := Int × LK) [70000, 70001] [70000] [.c (.ptr 70000 0), .c (.pI c), .c (.pI (rule + (1 : Int))), .agg [.pI endv, .pI over]] [] (fun ret89v => .v (.c (.pI ret89v.1))) (fun ret89v => [e27_0 c0 c1 c2 c3 c4, e27_21 ret89v]) (_) [e27_0 c0 c1 c2 c3 c4, e27_11 l700012] (fun ret89v => (⟨99, [sI 89 ret89v.1, e27_12, sI 1 c, sI 2 rule, e27_33, e27_6 c3 c rule, e27_32, sI 14 endv, sI 79 n, sI 80 v6, sp 81 70000, sI 82 c, sI 84 (rule + (1 : Int)), sA 88 [.pI endv, .pI over], e27_18], [e27_0 c0 c1 c2 c3 c4, e27_21 ret89v, e27_10 fromv over, e27_5 c rule fromv over]⟩ : St)) rfl rfl (by kernel_rfl) rfl (by kernel_rfl) Try.call100 (by kernel_rfl) (by kernel_rfl) (by kernel_rfl) (fun _ _ => rfl) (fun _ => by kernel_rfl) (hR c (rule + (1 : Int)) endv over l700012 _ h) (fun ret89v h => ?_)
         refine lpr (st' := (⟨99, [e27_12, sI 1 c, sI 2 rule, e27_33, e27_6 c3 c rule, e27_32, sI 14 endv, sI 79 n, sI 80 v6, sI 89 ret89v.1, e27_18], [e27_10 fromv over, e27_5 c rule fromv over, e27_0 c0 c1 c2 c3 c4, e27_21 ret89v]⟩ : St)) (by kernel_rfl) ?_
         refine lcq (d := 90) [.d tI, .d tI] (fun ret90v => (⟨99, [e27_12, sI 1 c, sI 2 rule, e27_33, e27_6 c3 c rule, e27_32, sI 14 endv, sI 79 n, sI 90 ret90v, e27_18], [e27_10 fromv over, e27_5 c rule fromv over, e27_0 c0 c1 c2 c3 c4, e27_21 ret89v]⟩ : St)) (by kernel_rfl) Try.call124 (fun _ => by kernel_rfl) (link124 v6 ret89v.1 _ h) (fun ret90v h => ?_)
         refine lcq (d := 91) [.d tI, .d tI] (fun ret91v => (⟨99, [e27_12, sI 1 c, sI 2 rule, e27_33, e27_6 c3 c rule, e27_32, sI 14 endv, sI 91 ret91v, e27_18], [e27_10 fromv over, e27_5 c rule fromv over, e27_0 c0 c1 c2 c3 c4, e27_21 ret89v]⟩ : St)) (by kernel_rfl) Try.call109 (fun _ => by kernel_rfl) (link109 n ret90v _ h) (fun ret91v h => ?_)
         refine rqT 1 ⟨99, [e27_12, sI 1 c, sI 2 rule, e27_33, e27_6 c3 c rule, e27_32, sI 13 ret91v, sI 14 endv, e27_18], [e27_10 fromv over, e27_5 c rule fromv over, e27_0 c0 c1 c2 c3 c4, e27_21 ret89v]⟩ (by kernel_rfl) ?_
         refine awl_nil ?_
         exact rest5 (ret91v, ret89v.2) h
        ·have h := h.2 hb
         refine cpr (st' := (⟨99, [e27_12, sI 1 c, sI 2 rule, e27_33, e27_6 c3 c rule, e27_32, sI 13 n, sI 14 endv, e27_18], [e27_10 fromv over, e27_5 c rule fromv over, e27_0 c0 c1 c2 c3 c4, e27_11 l700012]⟩ : St)) (by kernel_rfl) ?_
         refine aw_skip ?_
         exact rest5 (n, l700012) h
      ·refine srn 2 ⟨87, [e27_12, e27_1 c3 c rule, sp 5 5, e27_23, sI 88 c, sI 89 rule, e27_24, e27_4 c3 c rule, e27_25, sI 100 n, sI 101 endv, e27_13], [e27_17 fromv endv, e27_10 fromv over, e27_5 c rule fromv over, e27_0 c0 c1 c2 c3 c4, e27_7 l70001]⟩ (by kernel_rfl) rfl ?_
       refine aw_seq ?_
       refine srn 7 ⟨87, [e27_12, e27_1 c3 c rule, sp 5 5, e27_28 c3 c rule c0, e27_23, sI 88 c, sI 89 rule, e27_24, e27_4 c3 c rule, e27_25, sI 100 n, sI 101 endv, e27_13], [e27_17 fromv endv, e27_10 fromv over, e27_5 c rule fromv over, e27_0 c0 c1 c2 c3 c4, e27_7 l70001]⟩ (by kernel_rfl) rfl ?_
       refine aw_cond (b := (decide (((((c3.getD (c).toNat ((0 : Int), ([] : LI))).2).drop (rule).toNat).getD ((0 : Int)).toNat (0 : Int)) < c0))) (by kernel_rfl) (fun hb => ?_) (fun hb => ?_)
       ·have h := h.1 hb
        refine aw_seq ?_
        refine aw_seq ?_
        refine awd_begin [] (by kernel_rfl) ?_
        obtain ⟨o1, o2, h⟩ := h
        refine drq (by kernel_rfl) e27_n0 (ob := (Ts 4 (InR (fromv + (1 : Int)) ∧ Ts 2 (Ti 6 ((decide (endv = (fromv + (1 : Int)))) = true → True) (((decide (endv = (fromv + (1 : Int)))) = true → inIdx fromv c4.length) ∧ Ti 3 ((decide (endv = (fromv + (1 : Int)))) = true → True) (Ts 1 True)))))) (done' := e27_n1) (st' := (⟨87, [sB 37 ((decide (endv = (fromv + (1 : Int)))) && (decide ((c4.getD (fromv).toNat (0 : Int)) = ((((c3.getD (c).toNat ((0 : Int), ([] : LI))).2).drop (rule).toNat).getD ((0 : Int)).toNat (0 : Int))))), e27_23, sI 88 c, sI 89 rule, e27_24, e27_4 c3 c rule, e27_25, sI 100 n, sI 101 endv, e27_13], [e27_10 fromv over, e27_5 c rule fromv over, e27_0 c0 c1 c2 c3 c4, e27_7 l70001]⟩ : St)) (by kernel_rfl) (tsI 4 (⟨o1, tsI 2 (tiI 6 (fun _ => trivial) ⟨o2, tiI 3 (fun _ => trivial) (tsI 1 trivial)⟩)⟩)) ?_
        refine awd_done (by kernel_rfl) ?_
        refine thenQ_n ?_
        refine aw_cond (b := ((decide (endv = (fromv + (1 : Int)))) && (decide ((c4.getD (fromv).toNat (0 : Int)) = ((((c3.getD (c).toNat ((0 : Int), ([] : LI))).2).drop (rule).toNat).getD ((0 : Int)).toNat (0 : Int)))))) (by kernel_rfl) (fun hb => ?_) (fun hb => ?_)
        ·have h := h.1 hb
         refine srn 1 ⟨87, [sI 6 (1 : Int), e27_23, sI 88 c, sI 89 rule, e27_24, e27_4 c3 c rule, e27_25, sI 100 n, sI 101 endv, e27_13], [e27_10 fromv over, e27_5 c rule fromv over, e27_0 c0 c1 c2 c3 c4, e27_7 l70001]⟩ (by kernel_rfl) rfl ?_
         refine aw_ret ?_
         refine thenQ_r ?_
         refine thenQ_r ?_
         exact rest6 ((1 : Int), l70001) h
        ·have h := h.2 hb
         refine aw_skip ?_
         refine thenQ_n ?_
         refine srn 1 ⟨87, [sI 6 (0 : Int), e27_23, sI 88 c, sI 89 rule, e27_24, e27_4 c3 c rule, e27_25, sI 100 n, sI 101 endv, e27_13], [e27_10 fromv over, e27_5 c rule fromv over, e27_0 c0 c1 c2 c3 c4, e27_7 l70001]⟩ (by kernel_rfl) rfl ?_
         refine aw_ret ?_
         refine thenQ_r ?_
         exact rest6 ((0 : Int), l70001) h
       ·have h := h.2 hb
        refine aw_skip ?_
        refine thenQ_n ?_
        refine srn 5 ⟨87, [e27_12, e27_1 c3 c rule, sp 5 5, sp 7 7, e27_23, sI 88 c, sI 89 rule, e27_24, e27_4 c3 c rule, e27_25, sI 100 n, sI 101 endv, e27_13], [e27_17 fromv endv, e27_3 c3 c rule fromv endv, e27_10 fromv over, e27_5 c rule fromv over, e27_0 c0 c1 c2 c3 c4, e27_7 l70001]⟩ (by kernel_rfl) rfl ?_
        refine aw_seq ?_
        refine aw_seq ?_
        refine awd_begin [] (by kernel_rfl) ?_
        refine drq (by kernel_rfl) e27_n2 (ob := (Ts 11 True)) (done' := e27_n3) (st' := (⟨87, [e27_12, e27_1 c3 c rule, sp 5 5, sp 7 7, sI 8 ((mget l70001 ((-1 : Int), (((((c3.getD (c).toNat ((0 : Int), ([] : LI))).2).drop (rule).toNat).getD ((0 : Int)).toNat (0 : Int)), (fromv, endv)))).getD (0 : Int)), sB 9 ((mget l70001 ((-1 : Int), (((((c3.getD (c).toNat ((0 : Int), ([] : LI))).2).drop (rule).toNat).getD ((0 : Int)).toNat (0 : Int)), (fromv, endv)))).isSome), e27_23, sI 88 c, sI 89 rule, e27_24, e27_4 c3 c rule, e27_25, sI 100 n, sI 101 endv, e27_13], [e27_17 fromv endv, e27_3 c3 c rule fromv endv, e27_10 fromv over, e27_5 c rule fromv over, e27_0 c0 c1 c2 c3 c4, e27_7 l70001]⟩ : St)) (by kernel_rfl) (tsI 11 trivial) ?_
        refine awd_done (by kernel_rfl) ?_
        refine thenQ_n ?_
        refine srn 1 ⟨87, [e27_12, e27_1 c3 c rule, sp 5 5, sp 7 7, sI 8 ((mget l70001 ((-1 : Int), (((((c3.getD (c).toNat ((0 : Int), ([] : LI))).2).drop (rule).toNat).getD ((0 : Int)).toNat (0 : Int)), (fromv, endv)))).getD (0 : Int)), sB 50 ((mget l70001 ((-1 : Int), (((((c3.getD (c).toNat ((0 : Int), ([] : LI))).2).drop (rule).toNat).getD ((0 : Int)).toNat (0 : Int)), (fromv, endv)))).isSome), e27_23, sI 88 c, sI 89 rule, e27_24, e27_4 c3 c rule, e27_25, sI 100 n, sI 101 endv, e27_13], [e27_17 fromv endv, e27_3 c3 c rule fromv endv, e27_10 fromv over, e27_5 c rule fromv over, e27_0 c0 c1 c2 c3 c4, e27_7 l70001]⟩ (by kernel_rfl) rfl ?_
        refine aw_cond (b := (mget l70001 ((-1 : Int), (((((c3.getD (c).toNat ((0 : Int), ([] : LI))).2).drop (rule).toNat).getD ((0 : Int)).toNat (0 : Int)), (fromv, endv)))).isSome) (by kernel_rfl) (fun hb => ?_) (fun hb => ?_)
        ·have h := h.1 hb
         refine srn 2 ⟨87, [sI 6 ((mget l70001 ((-1 : Int), (((((c3.getD (c).toNat ((0 : Int), ([] : LI))).2).drop (rule).toNat).getD ((0 : Int)).toNat (0 : Int)), (fromv, endv)))).getD (0 : Int)), e27_23, sI 88 c, sI 89 rule, e27_24, e27_4 c3 c rule, e27_25, sI 100 n, sI 101 endv, e27_13], [e27_10 fromv over, e27_5 c rule fromv over, e27_0 c0 c1 c2 c3 c4, e27_7 l70001]⟩ (by kernel_rfl) rfl ?_
         refine aw_ret ?_
         refine thenQ_r ?_
         exact rest6 (((mget l70001 ((-1 : Int), (((((c3.getD (c).toNat ((0 : Int), ([] : LI))).2).drop (rule).toNat).getD ((0 : Int)).toNat (0 : Int)), (fromv, endv)))).getD (0 : Int)), l70001) h
        ·have h := h.2 hb
         refine aw_skip ?_
         refine thenQ_n ?_
         refine srn 1 ⟨87, [e27_12, e27_1 c3 c rule, sp 5 5, sp 7 7, sI 10 (0 : Int), e27_23, sI 88 c, sI 89 rule, e27_24, e27_4 c3 c rule, e27_25, sI 100 n, sI 101 endv, e27_13], [e27_17 fromv endv, e27_3 c3 c rule fromv endv, e27_10 fromv over, e27_5 c rule fromv over, e27_0 c0 c1 c2 c3 c4, e27_7 l70001]⟩ (by kernel_rfl) rfl ?_
         refine aw_seq ?_
         refine srn 7 ⟨87, [e27_12, e27_1 c3 c rule, sp 5 5, sp 7 7, sI 10 (0 : Int), e27_9 c3, e27_15 c3, sI 58 (0 : Int), e27_23, sI 88 c, sI 89 rule, e27_24, e27_4 c3 c rule, e27_25, sI 100 n, sI 101 endv, e27_13], [e27_17 fromv endv, e27_3 c3 c rule fromv endv, e27_10 fromv over, e27_5 c rule fromv over, e27_0 c0 c1 c2 c3 c4, e27_7 l70001]⟩ (by kernel_rfl) rfl ?_
         refine withJoin (σ := Int × LK) (fun s => (⟨87, [e27_12, sp 7 7, sI 10 s.1, e27_23, sI 88 c, sI 89 rule, e27_24, e27_4 c3 c rule, e27_25, sI 100 n, sI 101 endv, e27_13], [e27_3 c3 c rule fromv endv, e27_10 fromv over, e27_5 c rule fromv over, e27_0 c0 c1 c2 c3 c4, (70001, [], .dict (.pr tI t3) tI s.2)]⟩ : St)) (fun s => VCc100_k7 c3 R c rule fromv over n endv X2 s.1 s.2) (fun s h => ?_) (fun rest7 => ?_)
         ·obtain ⟨n2, l700012⟩ := s
          have h : VCc100_k7 c3 R c rule fromv over n endv X2 n2 l700012 := h
          unfold VCc100_k7 at h
          refine thenQ_n ?_
          refine aw_seq ?_
          refine awd_begin [70001] (by kernel_rfl) ?_
          refine drq (by kernel_rfl) [0, 1, 2, 3, 4, 5] (ob := (Ts 6 True)) (done' := [5, 4, 3, 2, 1, 0]) (st' := (⟨87, [sI 10 n2, s1 83 (.own 70001), sA 84 [.pI (-1 : Int), .pI ((((c3.getD (c).toNat ((0 : Int), ([] : LI))).2).drop (rule).toNat).getD ((0 : Int)).toNat (0 : Int)), .pI fromv, .pI endv], sI 85 n2, e27_23, sI 88 c, sI 89 rule, e27_24, e27_4 c3 c rule, e27_25, sI 100 n, sI 101 endv, e27_13], [e27_10 fromv over, e27_5 c rule fromv over, e27_0 c0 c1 c2 c3 c4, e27_11 l700012]⟩ : St)) (by kernel_rfl) (tsI 6 trivial) ?_
          refine awd_one (i := 6) (by kernel_rfl) ?_
          refine dsq (ob := True) (st' := (⟨87, [sI 10 n2, e27_23, sI 88 c, sI 89 rule, e27_24, e27_4 c3 c rule, e27_25, sI 100 n, sI 101 endv, e27_13], [e27_10 fromv over, e27_5 c rule fromv over, e27_0 c0 c1 c2 c3 c4, e27_20 l700012 c3 c rule fromv endv n2]⟩ : St)) rfl (by kernel_rfl) trivial ?_
          refine awd_done (by kernel_rfl) ?_
          refine thenQ_n ?_
          refine srn 2 ⟨87, [sI 6 n2, e27_23, sI 88 c, sI 89 rule, e27_24, e27_4 c3 c rule, e27_25, sI 100 n, sI 101 endv, e27_13], [e27_10 fromv over, e27_5 c rule fromv over, e27_0 c0 c1 c2 c3 c4, e27_20 l700012 c3 c rule fromv endv n2]⟩ (by kernel_rfl) rfl ?_
          refine aw_ret ?_
          exact rest6 (n2, (mset l700012 ((-1 : Int), (((((c3.getD (c).toNat ((0 : Int), ([] : LI))).2).drop (rule).toNat).getD ((0 : Int)).toNat (0 : Int)), (fromv, endv))) n2)) h
         ·refine aw_block ?_
          refine aw_loop (σ := Int × Int × LK) (fun s => (⟨87, [e27_12, e27_1 c3 c rule, sp 5 5, sp 7 7, sI 10 s.1, e27_9 c3, e27_15 c3, sI 58 s.2.1, e27_23, sI 88 c, sI 89 rule, e27_24, e27_4 c3 c rule, e27_25, sI 100 n, sI 101 endv, e27_13], [e27_17 fromv endv, e27_3 c3 c rule fromv endv, e27_10 fromv over, e27_5 c rule fromv over, e27_0 c0 c1 c2 c3 c4, (70001, [], .dict (.pr tI t3) tI s.2.2)]⟩ : St)) (fun s X => VCc100_l3 c0 c3 R c rule fromv over n endv X2 s.1 s.2.1 s.2.2 X) (s0 := ((0 : Int), (0 : Int), l70001)) (fun s X3 h => ?_) h
          obtain ⟨n2, v58, l700012⟩ := s
          have h : VCc100_l3 c0 c3 R c rule fromv over n endv X2 n2 v58 l700012 X3 := h
          unfold VCc100_l3 at h
          refine srn 1 ⟨87, [e27_12, e27_1 c3 c rule, sp 5 5, sp 7 7, sI 10 n2, e27_9 c3, e27_15 c3, sI 58 v58, sB 59 (decide (v58 < (c3.length : Int))), e27_23, sI 88 c, sI 89 rule, e27_24, e27_4 c3 c rule, e27_25, sI 100 n, sI 101 endv, e27_13], [e27_17 fromv endv, e27_3 c3 c rule fromv endv, e27_10 fromv over, e27_5 c rule fromv over, e27_0 c0 c1 c2 c3 c4, e27_11 l700012]⟩ (by kernel_rfl) rfl ?_
          refine aw_seq ?_
          refine aw_cond (b := (decide (v58 < (c3.length : Int)))) (by kernel_rfl) (fun hb => ?_) (fun hb => ?_)
          ·have h := h.1 hb
           refine aw_skip ?_
           refine thenQ_n ?_
           refine aw_seq ?_
           refine aw_block ?_
           refine sr ?_
           obtain ⟨o1, h⟩ := h
           refine rq 6 (ob := (Ts 1 (inIdx v58 c3.length ∧ Ts 4 True))) (st' := (⟨87, [e27_12, e27_1 c3 c rule, sp 5 5, sp 7 7, sI 10 n2, sI 11 v58, sp 12 12, e27_9 c3, e27_15 c3, sI 58 v58, e27_23, sI 88 c, sI 89 rule, e27_24, e27_4 c3 c rule, e27_25, sI 100 n, sI 101 endv, e27_13], [e27_17 fromv endv, e27_3 c3 c rule fromv endv, e27_29 c3 v58, e27_10 fromv over, e27_5 c rule fromv over, e27_0 c0 c1 c2 c3 c4, e27_11 l700012]⟩ : St)) (by kernel_rfl) (tsI 1 ⟨o1, tsI 4 trivial⟩) ?_
           refine nn ?_
           refine aw_seq ?_
           refine awd_begin [] (by kernel_rfl) ?_
           obtain ⟨o1, h⟩ := h
           refine drq (by kernel_rfl) [0, 1, 2, 3, 4, 5, 6, 7, 8, 9] (ob := (Ts 8 (InR (((((c3.getD (c).toNat ((0 : Int), ([] : LI))).2).drop (rule).toNat).getD ((0 : Int)).toNat (0 : Int)) - c0) ∧ Ts 1 True))) (done' := [9, 8, 7, 6, 5, 4, 3, 2, 1, 0]) (st' := (⟨87, [e27_12, e27_1 c3 c rule, sp 5 5, sp 7 7, sI 10 n2, sI 11 v58, e27_9 c3, e27_15 c3, sI 58 v58, e27_22 c3 v58 c rule c0, e27_23, sI 88 c, sI 89 rule, e27_24, e27_4 c3 c rule, e27_25, sI 100 n, sI 101 endv, e27_13], [e27_17 fromv endv, e27_3 c3 c rule fromv endv, e27_10 fromv over, e27_5 c rule fromv over, e27_0 c0 c1 c2 c3 c4, e27_11 l700012]⟩ : St)) (by kernel_rfl) (tsI 8 ⟨o1, tsI 1 trivial⟩) ?_
           refine awd_done (by kernel_rfl) ?_
           refine thenQ_n ?_
           refine withJoin (σ := Int × LK) (fun s => (⟨87, [e27_12, e27_1 c3 c rule, sp 5 5, sp 7 7, sI 10 s.1, e27_9 c3, e27_15 c3, sI 58 v58, e27_23, sI 88 c, sI 89 rule, e27_24, e27_4 c3 c rule, e27_25, sI 100 n, sI 101 endv, e27_13], [e27_17 fromv endv, e27_3 c3 c rule fromv endv, e27_10 fromv over, e27_5 c rule fromv over, e27_0 c0 c1 c2 c3 c4, (70001, [], .dict (.pr tI t3) tI s.2)]⟩ : St)) (fun s => VCc100_k8 v58 X3 s.1 s.2) (fun s h => ?_) (fun rest8 => ?_)
           ·obtain ⟨n3, l700013⟩ := s
            have h : VCc100_k8 v58 X3 n3 l700013 := h
            unfold VCc100_k8 at h
            refine blockQ_n ?_
            refine thenQ_n ?_
            refine aw_region ?_
            obtain ⟨o1, h⟩ := h
            refine rq 2 (ob := (InR (v58 + (1 : Int)) ∧ Ts 1 True)) (st' := (⟨87, [e27_12, e27_1 c3 c rule, sp 5 5, sp 7 7, sI 10 n3, e27_9 c3, e27_15 c3, sI 58 (v58 + (1 : Int)), e27_23, sI 88 c, sI 89 rule, e27_24, e27_4 c3 c rule, e27_25, sI 100 n, sI 101 endv, e27_13], [e27_17 fromv endv, e27_3 c3 c rule fromv endv, e27_10 fromv over, e27_5 c rule fromv over, e27_0 c0 c1 c2 c3 c4, e27_31 l700013]⟩ : St)) (by kernel_rfl) (⟨o1, tsI 1 trivial⟩) ?_
            refine awl_nil ?_
            exact thenQ_n ⟨(n3, (v58 + (1 : Int)), l700013), rfl, h⟩
           ·refine aw_cond (b := (decide ((c3.getD (v58).toNat ((0 : Int), ([] : LI))).1 = (((((c3.getD (c).toNat ((0 : Int), ([] : LI))).2).drop (rule).toNat).getD ((0 : Int)).toNat (0 : Int)) - c0)))) (by kernel_rfl) (fun hb => ?_) (fun hb => ?_)
            ·have h := h.1 hb
             refine aw_region ?_
             refine rqT 4 ⟨87, [e27_12, e27_1 c3 c rule, sp 5 5, sp 7 7, e27_9 c3, e27_15 c3, sI 58 v58, sI 73 n2, sp 74 70000, sI 75 v58, sA 76 [.pI fromv, .pI endv], e27_23, sI 88 c, sI 89 rule, e27_24, e27_4 c3 c rule, e27_25, sI 100 n, sI 101 endv, e27_13], [e27_17 fromv endv, e27_3 c3 c rule fromv endv, e27_10 fromv over, e27_5 c rule fromv over, e27_0 c0 c1 c2 c3 c4, e27_11 l700012]⟩ (by kernel_rfl) ?_
             refine awl_lcall (σ := Int × LK) [70000, 70001] [70000] [.c (.ptr 70000 0), .c (.pI v58), .c (.pI (0 : Int)), .agg [.pI fromv, .pI endv]] [] (fun ret77v => .v (.c (.pI ret77v.1))) (fun ret77v => [e27_0 c0 c1 c2 c3 c4, e27_14 ret77v]) (_) [e27_0 c0 c1 c2 c3 c4, e27_11 l700012] (fun ret77v => (⟨87, [sI 77 ret77v.1, e27_12, e27_1 c3 c rule, sp 5 5, sp 7 7, e27_9 c3, e27_15 c3, sI 58 v58, sI 73 n2, sp 74 70000, sI 75 v58, sA 76 [.pI fromv, .pI endv], e27_23, sI 88 c, sI 89 rule, e27_24, e27_4 c3 c rule, e27_25, sI 100 n, sI 101 endv, e27_13], [e27_0 c0 c1 c2 c3 c4, e27_14 ret77v, e27_17 fromv endv, e27_3 c3 c rule fromv endv, e27_10 fromv over, e27_5 c rule fromv over]⟩ : St)) rfl rfl (by kernel_rfl) rfl (by kernel_rfl) Try.call100 (by kernel_rfl) (by kernel_rfl) (by kernel_rfl) (fun _ _ => rfl) (fun _ => by kernel_rfl) (hR v58 (0 : Int) fromv endv l700012 _ h) (fun ret77v h => ?_)
             refine lpr (st' := (⟨87, [e27_12, e27_1 c3 c rule, sp 5 5, sp 7 7, e27_9 c3, e27_15 c3, sI 58 v58, sI 73 n2, sI 77 ret77v.1, e27_23, sI 88 c, sI 89 rule, e27_24, e27_4 c3 c rule, e27_25, sI 100 n, sI 101 endv, e27_13], [e27_17 fromv endv, e27_3 c3 c rule fromv endv, e27_10 fromv over, e27_5 c rule fromv over, e27_0 c0 c1 c2 c3 c4, e27_14 ret77v]⟩ : St)) (by kernel_rfl) ?_
             refine lcq (d := 78) [.d tI, .d tI] (fun ret78v => (⟨87, [e27_12, e27_1 c3 c rule, sp 5 5, sp 7 7, e27_9 c3, e27_15 c3, sI 58 v58, sI 78 ret78v, e27_23, sI 88 c, sI 89 rule, e27_24, e27_4 c3 c rule, e27_25, sI 100 n, sI 101 endv, e27_13], [e27_17 fromv endv, e27_3 c3 c rule fromv endv, e27_10 fromv over, e27_5 c rule fromv over, e27_0 c0 c1 c2 c3 c4, e27_14 ret77v]⟩ : St)) (by kernel_rfl) Try.call109 (fun _ => by kernel_rfl) (link109 n2 ret77v.1 _ h) (fun ret78v h => ?_)
             refine rqT 1 ⟨87, [e27_12, e27_1 c3 c rule, sp 5 5, sp 7 7, sI 10 ret78v, e27_9 c3, e27_15 c3, sI 58 v58, e27_23, sI 88 c, sI 89 rule, e27_24, e27_4 c3 c rule, e27_25, sI 100 n, sI 101 endv, e27_13], [e27_17 fromv endv, e27_3 c3 c rule fromv endv, e27_10 fromv over, e27_5 c rule fromv over, e27_0 c0 c1 c2 c3 c4, e27_14 ret77v]⟩ (by kernel_rfl) ?_
             refine awl_nil ?_
             exact rest8 (ret78v, ret77v.2) h
            ·have h := h.2 hb
             refine cpr (st' := (⟨87, [e27_12, e27_1 c3 c rule, sp 5 5, sp 7 7, sI 10 n2, e27_9 c3, e27_15 c3, sI 58 v58, e27_23, sI 88 c, sI 89 rule, e27_24, e27_4 c3 c rule, e27_25, sI 100 n, sI 101 endv, e27_13], [e27_17 fromv endv, e27_3 c3 c rule fromv endv, e27_10 fromv over, e27_5 c rule fromv over, e27_0 c0 c1 c2 c3 c4, e27_11 l700012]⟩ : St)) (by kernel_rfl) ?_
             refine aw_skip ?_
             exact rest8 (n2, l700012) h
          ·have h := h.2 hb
           refine cpr (st' := (⟨87, [e27_12, sp 7 7, sI 10 n2, e27_23, sI 88 c, sI 89 rule, e27_24, e27_4 c3 c rule, e27_25, sI 100 n, sI 101 endv, e27_13], [e27_3 c3 c rule fromv endv, e27_10 fromv over, e27_5 c rule fromv over, e27_0 c0 c1 c2 c3 c4, e27_11 l700012]⟩ : St)) (by kernel_rfl) ?_
           refine aw_exit ?_
           refine thenQ_x ?_
           refine thenQ_x ?_
           refine blockQ_hit ?_
           exact rest7 (n2, l700012) h
     ·have h := h.2 hb
      refine cpr (st' := (⟨99, [e27_12, sp 10 10, sI 13 n, e27_18], [e27_19 c rule fromv over, e27_0 c0 c1 c2 c3 c4, e27_7 l70001]⟩ : St)) (by kernel_rfl) ?_
      refine aw_exit ?_
      refine thenQ_x ?_
      refine thenQ_x ?_
      refine blockQ_hit ?_
      exact rest4 (n, l70001) h
def VCc100_it (c0 : Int) (c1 : Int) (c2 : Int) (c3 : LR) (c4 : LI) : Nat → Int → Int → Int → Int → LK → (Int × LK → Prop) → Prop
  | 0 => fun _ _ _ _ _ _ => False
  | n + 1 => fun c rule fromv over c5 K => VCc100 c0 c1 c2 c3 c4 (VCc100_it c0 c1 c2 c3 c4 n) c rule fromv over c5 K
def VCcr100 (c0 : Int) (c1 : Int) (c2 : Int) (c3 : LR) (c4 : LI) (c : Int) (rule : Int) (fromv : Int) (over : Int) (c5 : LK) (K : Int × LK → Prop) : Prop := ∃ n, VCc100_it c0 c1 c2 c3 c4 n c rule fromv over c5 K
theorem linkci100 (c0 : Int) (c1 : Int) (c2 : Int) (c3 : LR) (c4 : LI) : ∀ (n : Nat) (c : Int) (rule : Int) (fromv : Int) (over : Int) (c5 : LK) (K : Int × LK → Prop), VCc100_it c0 c1 c2 c3 c4 n c rule fromv over c5 K → LCalls Try.prog 100 [70000, 70001] [70000] [e27_0 c0 c1 c2 c3 c4, e27_8 c5] [.c (.ptr 70000 0), .c (.pI c), .c (.pI rule), .agg [.pI fromv, .pI over]] (fun av hp' => ∃ y : Int × LK, av = .v (.c (.pI y.1)) ∧ hp' = [e27_0 c0 c1 c2 c3 c4, (70001, [], .dict (.pr tI t3) tI y.2)] ∧ K y)
  | 0, _, _, _, _, _, _, h => False.elim h
  | n + 1, c, rule, fromv, over, c5, K, h => linkc100 c0 c1 c2 c3 c4 (VCc100_it c0 c1 c2 c3 c4 n) (linkci100 c0 c1 c2 c3 c4 n) c rule fromv over c5 K h
theorem linkcr100 (c0 : Int) (c1 : Int) (c2 : Int) (c3 : LR) (c4 : LI) (c : Int) (rule : Int) (fromv : Int) (over : Int) (c5 : LK) (K : Int × LK → Prop) (h : VCcr100 c0 c1 c2 c3 c4 c rule fromv over c5 K) : LCalls Try.prog 100 [70000, 70001] [70000] [e27_0 c0 c1 c2 c3 c4, e27_8 c5] [.c (.ptr 70000 0), .c (.pI c), .c (.pI rule), .agg [.pI fromv, .pI over]] (fun av hp' => ∃ y : Int × LK, av = .v (.c (.pI y.1)) ∧ hp' = [e27_0 c0 c1 c2 c3 c4, (70001, [], .dict (.pr tI t3) tI y.2)] ∧ K y) := by
  obtain ⟨n, h⟩ := h
  exact linkci100 c0 c1 c2 c3 c4 n c rule fromv over c5 K h
abbrev e27a0 (c0 : Int) (c1 : Int) (c2 : Int) (c3 : LR) (c4 : LI) : Nat × Path × Con := hB 70000 [.pI c0, .pI c1, .pI c2, .p (.sl tR) c3, .pS c4, .own 70001]
abbrev e27a1 (c : Int) (sign : Int) (over : Int) : Nat × Path × Con := hB 7 [.pI (-1 : Int), .pI c, .pI sign, .pI over]
abbrev e27a2 (c5 : LK) : Nat × Path × Con := (70001, [], .dict (.pr tI t3) tI c5)
abbrev e27a3 (c3 : LR) : Nat × Path × AV := s1 56 (.p (.sl tR) c3)
abbrev e27a4 (sign : Int) (over : Int) : Nat × Path × Con := hB 5 [.pI sign, .pI over]
abbrev e27a5 (l70001 : LK) : Nat × Path × Con := (70001, [], .dict (.pr tI t3) tI l70001)
abbrev e27a6 : Nat × Path × AV := sp 87 70000
abbrev e27a7 (ret77v : Int × LK) : Nat × Path × Con := (70001, [], .dict (.pr tI t3) tI ret77v.2)
abbrev e27a8 (c3 : LR) : Nat × Path × AV := sI 57 (c3.length : Int)
abbrev e27a9 : Nat × Path × AV := sp 0 70000
-- (*coppicer/table.Counter).Sign
def VCc86_k1 (c : Int) (sign : Int) (over : Int) (K : Int × LK → Prop) (n : Int) (l70001 : LK) : Prop :=
  K (n, (mset l70001 ((-1 : Int), (c, (sign, over))) n))
def VCc86_k2 (v58 : Int) (X1 : Int × Int × LK → Prop) (n2 : Int) (l700012 : LK) : Prop :=
  (InR (v58 + (1 : Int)) ∧ X1 (n2, (v58 + (1 : Int)), l700012))
def VCc86_l1 (c0 : Int) (c1 : Int) (c2 : Int) (c3 : LR) (c4 : LI) (c : Int) (sign : Int) (over : Int) (K : Int × LK → Prop) (n : Int) (v58 : Int) (l70001 : LK) (X1 : Int × Int × LK → Prop) : Prop :=
  (((decide (v58 < (c3.length : Int))) = true → (inIdx v58 c3.length ∧ (InR (c - c0) ∧ (((decide ((c3.getD (v58).toNat ((0 : Int), ([] : LI))).1 = (c - c0))) = true → VCcr100 c0 c1 c2 c3 c4 v58 (0 : Int) sign over l70001 (fun (ret77v : Int × LK) => VC109 n ret77v.1 (fun (ret78v : Int) => VCc86_k2 v58 X1 ret78v ret77v.2))) ∧ ((decide ((c3.getD (v58).toNat ((0 : Int), ([] : LI))).1 = (c - c0))) = false → VCc86_k2 v58 X1 n l70001))))) ∧ ((decide (v58 < (c3.length : Int))) = false → VCc86_k1 c sign over K n l70001))
def VCc86 (c0 : Int) (c1 : Int) (c2 : Int) (c3 : LR) (c4 : LI) (R : Int → Int → Int → LK → (Int × LK → Prop) → Prop) (c : Int) (sign : Int) (over : Int) (c5 : LK) (K : Int × LK → Prop) : Prop :=
  (((decide (c < c0)) = true → (InR (sign + (1 : Int)) ∧ ((decide (over = (sign + (1 : Int)))) = true → inIdx sign c4.length) ∧ ((((decide (over = (sign + (1 : Int)))) && (decide ((c4.getD (sign).toNat (0 : Int)) = c))) = true → K ((1 : Int), c5)) ∧ (((decide (over = (sign + (1 : Int)))) && (decide ((c4.getD (sign).toNat (0 : Int)) = c))) = false → K ((0 : Int), c5))))) ∧ ((decide (c < c0)) = false → (((mget c5 ((-1 : Int), (c, (sign, over)))).isSome = true → K (((mget c5 ((-1 : Int), (c, (sign, over)))).getD (0 : Int)), c5)) ∧ ((mget c5 ((-1 : Int), (c, (sign, over)))).isSome = false → Loop (σ := Int × Int × LK) (fun s X => VCc86_l1 c0 c1 c2 c3 c4 c sign over K s.1 s.2.1 s.2.2 X) ((0 : Int), (0 : Int), c5)))))
set_option maxHeartbeats 4000000 in
theorem linkc86 (c0 : Int) (c1 : Int) (c2 : Int) (c3 : LR) (c4 : LI) (R : Int → Int → Int → LK → (Int × LK → Prop) → Prop) (hR : ∀ (c : Int) (sign : Int) (over : Int) (c5 : LK) (K : Int × LK → Prop), R c sign over c5 K → LCalls Try.prog 86 [70000, 70001] [70000] [e27a0 c0 c1 c2 c3 c4, e27a2 c5] [.c (.ptr 70000 0), .c (.pI c), .agg [.pI sign, .pI over]] (fun av hp' => ∃ y : Int × LK, av = .v (.c (.pI y.1)) ∧ hp' = [e27a0 c0 c1 c2 c3 c4, (70001, [], .dict (.pr tI t3) tI y.2)] ∧ K y)) (c : Int) (sign : Int) (over : Int) (c5 : LK) (K : Int × LK → Prop) (h : VCc86 c0 c1 c2 c3 c4 R c sign over c5 K) : LCalls Try.prog 86 [70000, 70001] [70000] [e27a0 c0 c1 c2 c3 c4, e27a2 c5] [.c (.ptr 70000 0), .c (.pI c), .agg [.pI sign, .pI over]] (fun av hp' => ∃ y : Int × LK, av = .v (.c (.pI y.1)) ∧ hp' = [e27a0 c0 c1 c2 c3 c4, (70001, [], .dict (.pr tI t3) tI y.2)] ∧ K y) := by
 refine lcalls_of_aw [70000, 70001] [70000] [.t 6] Try.func86 rfl rfl (by kernel_rfl) (by kernel_rfl) (by kernel_rfl) ?_
 refine aw_conv [] (st' := (⟨87, [e27a9, sI 1 c, sA 2 [.pI sign, .pI over], e27a6], [e27a0 c0 c1 c2 c3 c4, e27a2 c5]⟩ : St)) (by kernel_rfl) ?_
 unfold VCc86 at h
 refine srn 2 ⟨87, [e27a9, sI 1 c, sp 5 5, e27a6], [e27a4 sign over, e27a0 c0 c1 c2 c3 c4, e27a2 c5]⟩ (by kernel_rfl) rfl ?_
 refine aw_seq ?_
 refine srn 7 ⟨87, [e27a9, sI 1 c, sp 5 5, sB 19 (decide (c < c0)), e27a6], [e27a4 sign over, e27a0 c0 c1 c2 c3 c4, e27a2 c5]⟩ (by kernel_rfl) rfl ?_
 refine aw_cond (b := (decide (c < c0))) (by kernel_rfl) (fun hb => ?_) (fun hb => ?_)
 ·have h := h.1 hb
  refine aw_seq ?_
  refine aw_seq ?_
  refine awd_begin [] (by kernel_rfl) ?_
  obtain ⟨o1, o2, h⟩ := h
  refine drq (by kernel_rfl) [0, 1, 2, 3, 4, 5, 6, 7, 8, 9, 10, 11, 12, 13, 14, 15, 16, 17] (ob := (Ts 4 (InR (sign + (1 : Int)) ∧ Ts 2 (Ti 6 ((decide (over = (sign + (1 : Int)))) = true → True) (((decide (over = (sign + (1 : Int)))) = true → inIdx sign c4.length) ∧ Ti 3 ((decide (over = (sign + (1 : Int)))) = true → True) (Ts 1 True)))))) (done' := [17, 16, 15, 14, 13, 12, 11, 10, 9, 8, 7, 6, 5, 4, 3, 2, 1, 0]) (st' := (⟨87, [sB 37 ((decide (over = (sign + (1 : Int)))) && (decide ((c4.getD (sign).toNat (0 : Int)) = c))), e27a6], [e27a0 c0 c1 c2 c3 c4, e27a2 c5]⟩ : St)) (by kernel_rfl) (tsI 4 (⟨o1, tsI 2 (tiI 6 (fun _ => trivial) ⟨o2, tiI 3 (fun _ => trivial) (tsI 1 trivial)⟩)⟩)) ?_
  refine awd_done (by kernel_rfl) ?_
  refine thenQ_n ?_
  refine aw_cond (b := ((decide (over = (sign + (1 : Int)))) && (decide ((c4.getD (sign).toNat (0 : Int)) = c)))) (by kernel_rfl) (fun hb => ?_) (fun hb => ?_)
  ·have h := h.1 hb
   refine srn 1 ⟨87, [sI 6 (1 : Int), e27a6], [e27a0 c0 c1 c2 c3 c4, e27a2 c5]⟩ (by kernel_rfl) rfl ?_
   refine aw_ret ?_
   refine thenQ_r ?_
   refine thenQ_r ?_
   exact lret_r (σ := Int × LK) (A := fun y => .v (.c (.pI y.1))) (H := fun y => [e27a0 c0 c1 c2 c3 c4, (70001, [], .dict (.pr tI t3) tI y.2)]) (ob := True) ((1 : Int), c5) (by kernel_rfl) trivial rfl (by kernel_rfl) (by kernel_rfl) (by kernel_rfl) h
  ·have h := h.2 hb
   refine aw_skip ?_
   refine thenQ_n ?_
   refine srn 1 ⟨87, [sI 6 (0 : Int), e27a6], [e27a0 c0 c1 c2 c3 c4, e27a2 c5]⟩ (by kernel_rfl) rfl ?_
   refine aw_ret ?_
   refine thenQ_r ?_
   exact lret_r (σ := Int × LK) (A := fun y => .v (.c (.pI y.1))) (H := fun y => [e27a0 c0 c1 c2 c3 c4, (70001, [], .dict (.pr tI t3) tI y.2)]) (ob := True) ((0 : Int), c5) (by kernel_rfl) trivial rfl (by kernel_rfl) (by kernel_rfl) (by kernel_rfl) h
 ·have h := h.2 hb
  refine aw_skip ?_
  refine thenQ_n ?_
  refine srn 5 ⟨87, [e27a9, sI 1 c, sp 5 5, sp 7 7, e27a6], [e27a4 sign over, e27a1 c sign over, e27a0 c0 c1 c2 c3 c4, e27a2 c5]⟩ (by kernel_rfl) rfl ?_
  refine aw_seq ?_
  refine aw_seq ?_
  refine awd_begin [] (by kernel_rfl) ?_
  refine drq (by kernel_rfl) [0, 1, 2, 3, 4, 5, 6, 7, 8, 9, 10] (ob := (Ts 11 True)) (done' := [10, 9, 8, 7, 6, 5, 4, 3, 2, 1, 0]) (st' := (⟨87, [e27a9, sI 1 c, sp 5 5, sp 7 7, sI 8 ((mget c5 ((-1 : Int), (c, (sign, over)))).getD (0 : Int)), sB 9 ((mget c5 ((-1 : Int), (c, (sign, over)))).isSome), e27a6], [e27a4 sign over, e27a1 c sign over, e27a0 c0 c1 c2 c3 c4, e27a2 c5]⟩ : St)) (by kernel_rfl) (tsI 11 trivial) ?_
  refine awd_done (by kernel_rfl) ?_
  refine thenQ_n ?_
  refine srn 1 ⟨87, [e27a9, sI 1 c, sp 5 5, sp 7 7, sI 8 ((mget c5 ((-1 : Int), (c, (sign, over)))).getD (0 : Int)), sB 50 ((mget c5 ((-1 : Int), (c, (sign, over)))).isSome), e27a6], [e27a4 sign over, e27a1 c sign over, e27a0 c0 c1 c2 c3 c4, e27a2 c5]⟩ (by kernel_rfl) rfl ?_
  refine aw_cond (b := (mget c5 ((-1 : Int), (c, (sign, over)))).isSome) (by kernel_rfl) (fun hb => ?_) (fun hb => ?_)
  ·have h := h.1 hb
   refine srn 2 ⟨87, [sI 6 ((mget c5 ((-1 : Int), (c, (sign, over)))).getD (0 : Int)), e27a6], [e27a0 c0 c1 c2 c3 c4, e27a2 c5]⟩ (by kernel_rfl) rfl ?_
   refine aw_ret ?_
   refine thenQ_r ?_
   exact lret_r (σ := Int × LK) (A := fun y => .v (.c (.pI y.1))) (H := fun y => [e27a0 c0 c1 c2 c3 c4, (70001, [], .dict (.pr tI t3) tI y.2)]) (ob := True) (((mget c5 ((-1 : Int), (c, (sign, over)))).getD (0 : Int)), c5) (by kernel_rfl) trivial rfl (by kernel_rfl) (by kernel_rfl) (by kernel_rfl) h
  ·have h := h.2 hb
   refine aw_skip ?_
   refine thenQ_n ?_
   refine srn 1 ⟨87, [e27a9, sI 1 c, sp 5 5, sp 7 7, sI 10 (0 : Int), e27a6], [e27a4 sign over, e27a1 c sign over, e27a0 c0 c1 c2 c3 c4, e27a2 c5]⟩ (by kernel_rfl) rfl ?_
   refine aw_seq ?_
   refine srn 7 ⟨87, [e27a9, sI 1 c, sp 5 5, sp 7 7, sI 10 (0 : Int), e27a3 c3, e27a8 c3, sI 58 (0 : Int), e27a6], [e27a4 sign over, e27a1 c sign over, e27a0 c0 c1 c2 c3 c4, e27a2 c5]⟩ (by kernel_rfl) rfl ?_
   refine withJoin (σ := Int × LK) (fun s => (⟨87, [e27a9, sp 7 7, sI 10 s.1, e27a6], [e27a1 c sign over, e27a0 c0 c1 c2 c3 c4, (70001, [], .dict (.pr tI t3) tI s.2)]⟩ : St)) (fun s => VCc86_k1 c sign over K s.1 s.2) (fun s h => ?_) (fun rest1 => ?_)
   ·obtain ⟨n, l70001⟩ := s
    have h : VCc86_k1 c sign over K n l70001 := h
    unfold VCc86_k1 at h
    refine thenQ_n ?_
    refine aw_seq ?_
    refine awd_begin [70001] (by kernel_rfl) ?_
    refine drq (by kernel_rfl) [0, 1, 2, 3, 4, 5] (ob := (Ts 6 True)) (done' := [5, 4, 3, 2, 1, 0]) (st' := (⟨87, [sI 10 n, s1 83 (.own 70001), sA 84 [.pI (-1 : Int), .pI c, .pI sign, .pI over], sI 85 n, e27a6], [e27a0 c0 c1 c2 c3 c4, e27a5 l70001]⟩ : St)) (by kernel_rfl) (tsI 6 trivial) ?_
    refine awd_one (i := 6) (by kernel_rfl) ?_
    refine dsq (ob := True) (st' := (⟨87, [sI 10 n, e27a6], [e27a0 c0 c1 c2 c3 c4, (70001, [], .dict (.pr tI t3) tI (mset l70001 ((-1 : Int), (c, (sign, over))) n))]⟩ : St)) rfl (by kernel_rfl) trivial ?_
    refine awd_done (by kernel_rfl) ?_
    refine thenQ_n ?_
    refine srn 2 ⟨87, [sI 6 n, e27a6], [e27a0 c0 c1 c2 c3 c4, (70001, [], .dict (.pr tI t3) tI (mset l70001 ((-1 : Int), (c, (sign, over))) n))]⟩ (by kernel_rfl) rfl ?_
    refine aw_ret ?_
    exact lret_r (σ := Int × LK) (A := fun y => .v (.c (.pI y.1))) (H := fun y => [e27a0 c0 c1 c2 c3 c4, (70001, [], .dict (.pr tI t3) tI y.2)]) (ob := True) (n, (mset l70001 ((-1 : Int), (c, (sign, over))) n)) (by kernel_rfl) trivial rfl (by kernel_rfl) (by kernel_rfl) (by kernel_rfl) h
   ·refine aw_block ?_
    refine aw_loop (σ := Int × Int × LK) (fun s => (⟨87, [e27a9, sI 1 c, sp 5 5, sp 7 7, sI 10 s.1, e27a3 c3, e27a8 c3, sI 58 s.2.1, e27a6], [e27a4 sign over, e27a1 c sign over, e27a0 c0 c1 c2 c3 c4, (70001, [], .dict (.pr tI t3) tI s.2.2)]⟩ : St)) (fun s X => VCc86_l1 c0 c1 c2 c3 c4 c sign over K s.1 s.2.1 s.2.2 X) (s0 := ((0 : Int), (0 : Int), c5)) (fun s X1 h => ?_) h
    obtain ⟨n, v58, l70001⟩ := s
    have h : VCc86_l1 c0 c1 c2 c3 c4 c sign over K n v58 l70001 X1 := h
    unfold VCc86_l1 at h
    refine srn 1 ⟨87, [e27a9, sI 1 c, sp 5 5, sp 7 7, sI 10 n, e27a3 c3, e27a8 c3, sI 58 v58, sB 59 (decide (v58 < (c3.length : Int))), e27a6], [e27a4 sign over, e27a1 c sign over, e27a0 c0 c1 c2 c3 c4, e27a5 l70001]⟩ (by kernel_rfl) rfl ?_
    refine aw_seq ?_
    refine aw_cond (b := (decide (v58 < (c3.length : Int)))) (by kernel_rfl) (fun hb => ?_) (fun hb => ?_)
    ·have h := h.1 hb
     refine aw_skip ?_
     refine thenQ_n ?_
     refine aw_seq ?_
     refine aw_block ?_
     refine sr ?_
     obtain ⟨o1, h⟩ := h
     refine rq 6 (ob := (Ts 1 (inIdx v58 c3.length ∧ Ts 4 True))) (st' := (⟨87, [e27a9, sI 1 c, sp 5 5, sp 7 7, sI 10 n, sI 11 v58, sp 12 12, e27a3 c3, e27a8 c3, sI 58 v58, e27a6], [e27a4 sign over, e27a1 c sign over, hB 12 [.pI ((c3.getD (v58).toNat ((0 : Int), ([] : LI))).1), .pS ((c3.getD (v58).toNat ((0 : Int), ([] : LI))).2)], e27a0 c0 c1 c2 c3 c4, e27a5 l70001]⟩ : St)) (by kernel_rfl) (tsI 1 ⟨o1, tsI 4 trivial⟩) ?_
     refine nn ?_
     refine aw_seq ?_
     refine awd_begin [] (by kernel_rfl) ?_
     obtain ⟨o1, h⟩ := h
     refine drq (by kernel_rfl) [0, 1, 2, 3, 4, 5, 6, 7, 8, 9] (ob := (Ts 8 (InR (c - c0) ∧ Ts 1 True))) (done' := [9, 8, 7, 6, 5, 4, 3, 2, 1, 0]) (st' := (⟨87, [e27a9, sI 1 c, sp 5 5, sp 7 7, sI 10 n, sI 11 v58, e27a3 c3, e27a8 c3, sI 58 v58, sB 72 (decide ((c3.getD (v58).toNat ((0 : Int), ([] : LI))).1 = (c - c0))), e27a6], [e27a4 sign over, e27a1 c sign over, e27a0 c0 c1 c2 c3 c4, e27a5 l70001]⟩ : St)) (by kernel_rfl) (tsI 8 ⟨o1, tsI 1 trivial⟩) ?_
     refine awd_done (by kernel_rfl) ?_
     refine thenQ_n ?_
     refine withJoin (σ := Int × LK) (fun s => (⟨87, [e27a9, sI 1 c, sp 5 5, sp 7 7, sI 10 s.1, e27a3 c3, e27a8 c3, sI 58 v58, e27a6], [e27a4 sign over, e27a1 c sign over, e27a0 c0 c1 c2 c3 c4, (70001, [], .dict (.pr tI t3) tI s.2)]⟩ : St)) (fun s => VCc86_k2 v58 X1 s.1 s.2) (fun s h => ?_) (fun rest2 => ?_)
     ·obtain ⟨n2, l700012⟩ := s
      have h : VCc86_k2 v58 X1 n2 l700012 := h
      unfold VCc86_k2 at h
      refine blockQ_n ?_
      refine thenQ_n ?_
      refine aw_region ?_
      obtain ⟨o1, h⟩ := h
      refine rq 2 (ob := (InR (v58 + (1 : Int)) ∧ Ts 1 True)) (st' := (⟨87, [e27a9, sI 1 c, sp 5 5, sp 7 7, sI 10 n2, e27a3 c3, e27a8 c3, sI 58 (v58 + (1 : Int)), e27a6], [e27a4 sign over, e27a1 c sign over, e27a0 c0 c1 c2 c3 c4, (70001, [], .dict (.pr tI t3) tI l700012)]⟩ : St)) (by kernel_rfl) (⟨o1, tsI 1 trivial⟩) ?_
      refine awl_nil ?_
      exact thenQ_n ⟨(n2, (v58 + (1 : Int)), l700012), rfl, h⟩
     ·refine aw_cond (b := (decide ((c3.getD (v58).toNat ((0 : Int), ([] : LI))).1 = (c - c0)))) (by kernel_rfl) (fun hb => ?_) (fun hb => ?_)
      ·have h := h.1 hb
       refine aw_region ?_
       refine rqT 4 ⟨87, [e27a9, sI 1 c, sp 5 5, sp 7 7, e27a3 c3, e27a8 c3, sI 58 v58, sI 73 n, sp 74 70000, sI 75 v58, sA 76 [.pI sign, .pI over], e27a6], [e27a4 sign over, e27a1 c sign over, e27a0 c0 c1 c2 c3 c4, e27a5 l70001]⟩ (by kernel_rfl) ?_
       refine awl_lcall (σ := Int × LK) [70000, 70001] [70000] [.c (.ptr 70000 0), .c (.pI v58), .c (.pI (0 : Int)), .agg [.pI sign, .pI over]] [] (fun ret77v => .v (.c (.pI ret77v.1))) (fun ret77v => [e27a0 c0 c1 c2 c3 c4, e27a7 ret77v]) (_) [e27a0 c0 c1 c2 c3 c4, e27a5 l70001] (fun ret77v => (⟨87, [sI 77 ret77v.1, e27a9, sI 1 c, sp 5 5, sp 7 7, e27a3 c3, e27a8 c3, sI 58 v58, sI 73 n, sp 74 70000, sI 75 v58, sA 76 [.pI sign, .pI over], e27a6], [e27a0 c0 c1 c2 c3 c4, e27a7 ret77v, e27a4 sign over, e27a1 c sign over]⟩ : St)) rfl rfl (by kernel_rfl) rfl (by kernel_rfl) Try.call100 (by kernel_rfl) (by kernel_rfl) (by kernel_rfl) (fun _ _ => rfl) (fun _ => by kernel_rfl) (linkcr100 c0 c1 c2 c3 c4 v58 (0 : Int) sign over l70001 _ h) (fun ret77v h => ?_)
       refine lpr (st' := (⟨87, [e27a9, sI 1 c, sp 5 5, sp 7 7, e27a3 c3, e27a8 c3, sI 58 v58, sI 73 n, sI 77 ret77v.1, e27a6], [e27a4 sign over, e27a1 c sign over, e27a0 c0 c1 c2 c3 c4, e27a7 ret77v]⟩ : St)) (by kernel_rfl) ?_
       refine lcq (d := 78) [.d tI, .d tI] (fun ret78v => (⟨87, [e27a9, sI 1 c, sp 5 5, sp 7 7, e27a3 c3, e27a8 c3, sI 58 v58, sI 78 ret78v, e27a6], [e27a4 sign over, e27a1 c sign over, e27a0 c0 c1 c2 c3 c4, e27a7 ret77v]⟩ : St)) (by kernel_rfl) Try.call109 (fun _ => by kernel_rfl) (link109 n ret77v.1 _ h) (fun ret78v h => ?_)
       refine rqT 1 ⟨87, [e27a9, sI 1 c, sp 5 5, sp 7 7, sI 10 ret78v, e27a3 c3, e27a8 c3, sI 58 v58, e27a6], [e27a4 sign over, e27a1 c sign over, e27a0 c0 c1 c2 c3 c4, e27a7 ret77v]⟩ (by kernel_rfl) ?_
       refine awl_nil ?_
       exact rest2 (ret78v, ret77v.2) h
      ·have h := h.2 hb
       refine cpr (st' := (⟨87, [e27a9, sI 1 c, sp 5 5, sp 7 7, sI 10 n, e27a3 c3, e27a8 c3, sI 58 v58, e27a6], [e27a4 sign over, e27a1 c sign over, e27a0 c0 c1 c2 c3 c4, e27a5 l70001]⟩ : St)) (by kernel_rfl) ?_
       refine aw_skip ?_
       exact rest2 (n, l70001) h
    ·have h := h.2 hb
     refine cpr (st' := (⟨87, [e27a9, sp 7 7, sI 10 n, e27a6], [e27a1 c sign over, e27a0 c0 c1 c2 c3 c4, e27a5 l70001]⟩ : St)) (by kernel_rfl) ?_
     refine aw_exit ?_
     refine thenQ_x ?_
     refine thenQ_x ?_
     refine blockQ_hit ?_
     exact rest1 (n, l70001) h
def VCc86_it (c0 : Int) (c1 : Int) (c2 : Int) (c3 : LR) (c4 : LI) : Nat → Int → Int → Int → LK → (Int × LK → Prop) → Prop
  | 0 => fun _ _ _ _ _ => False
  | n + 1 => fun c sign over c5 K => VCc86 c0 c1 c2 c3 c4 (VCc86_it c0 c1 c2 c3 c4 n) c sign over c5 K
def VCcr86 (c0 : Int) (c1 : Int) (c2 : Int) (c3 : LR) (c4 : LI) (c : Int) (sign : Int) (over : Int) (c5 : LK) (K : Int × LK → Prop) : Prop := ∃ n, VCc86_it c0 c1 c2 c3 c4 n c sign over c5 K
theorem linkci86 (c0 : Int) (c1 : Int) (c2 : Int) (c3 : LR) (c4 : LI) : ∀ (n : Nat) (c : Int) (sign : Int) (over : Int) (c5 : LK) (K : Int × LK → Prop), VCc86_it c0 c1 c2 c3 c4 n c sign over c5 K → LCalls Try.prog 86 [70000, 70001] [70000] [e27a0 c0 c1 c2 c3 c4, e27a2 c5] [.c (.ptr 70000 0), .c (.pI c), .agg [.pI sign, .pI over]] (fun av hp' => ∃ y : Int × LK, av = .v (.c (.pI y.1)) ∧ hp' = [e27a0 c0 c1 c2 c3 c4, (70001, [], .dict (.pr tI t3) tI y.2)] ∧ K y)
  | 0, _, _, _, _, _, h => False.elim h
  | n + 1, c, sign, over, c5, K, h => linkc86 c0 c1 c2 c3 c4 (VCc86_it c0 c1 c2 c3 c4 n) (linkci86 c0 c1 c2 c3 c4 n) c sign over c5 K h
theorem linkcr86 (c0 : Int) (c1 : Int) (c2 : Int) (c3 : LR) (c4 : LI) (c : Int) (sign : Int) (over : Int) (c5 : LK) (K : Int × LK → Prop) (h : VCcr86 c0 c1 c2 c3 c4 c sign over c5 K) : LCalls Try.prog 86 [70000, 70001] [70000] [e27a0 c0 c1 c2 c3 c4, e27a2 c5] [.c (.ptr 70000 0), .c (.pI c), .agg [.pI sign, .pI over]] (fun av hp' => ∃ y : Int × LK, av = .v (.c (.pI y.1)) ∧ hp' = [e27a0 c0 c1 c2 c3 c4, (70001, [], .dict (.pr tI t3) tI y.2)] ∧ K y) := by
  obtain ⟨n, h⟩ := h
  exact linkci86 c0 c1 c2 c3 c4 n c sign over c5 K h
abbrev e27b0 (g : TG) (w : LI) : Nat × Path × Con := hB 70000 [.pI g.1, .pI g.2.1, .pI g.2.2.1, .p (.sl tR) g.2.2.2, .pS w, .own 70001]
abbrev e27b1 (g : TG) : Nat × Path × Con := hB 2 [.pI g.1, .pI g.2.1, .pI g.2.2.1, .p (.sl tR) g.2.2.2]
abbrev e27b2 (g : TG) : Nat × Path × Con := hB 30100 [.pI g.1, .pI g.2.1, .pI g.2.2.1, .p (.sl tR) g.2.2.2]
abbrev e27b3 (g : TG) (w : LI) : Nat × Path × Con := hB 9 [.pI g.1, .pI g.2.1, .pI g.2.2.1, .p (.sl tR) g.2.2.2, .pS w, .own 7]
abbrev e27b4 (ret31v : Int × LK) : Nat × Path × Con := (70001, [], .dict (.pr tI t3) tI ret31v.2)
abbrev e27b5 : Nat × Path × Con := (7, [], .dict (.pr tI t3) tI ([] : List ((Int × (Int × (Int × Int))) × Int)))
abbrev e27b6 : Nat × Path × Con := (70001, [], .dict (.pr tI t3) tI ([] : List ((Int × (Int × (Int × Int))) × Int)))
abbrev e27b7 (w : LI) : Nat × Path × AV := s1 1 (.pS w)
abbrev e27b8 (g : TG) : Nat × Path × AV := sA 10 [.pI g.1, .pI g.2.1, .pI g.2.2.1, .p (.sl tR) g.2.2.2]
abbrev e27b9 (g : TG) : Nat × Path × AV := sA 19 [.pI g.1, .pI g.2.1, .pI g.2.2.1, .p (.sl tR) g.2.2.2]
abbrev e27b10 (g : TG) : Nat × Path × AV := sA 0 [.pI g.1, .pI g.2.1, .pI g.2.2.1, .p (.sl tR) g.2.2.2]
abbrev e27b11 (w : LI) : Nat × Path × AV := sA 30 [.pI (0 : Int), .pI (w.length : Int)]
-- coppicer/table.Trees
def VC27_k1 (K : Int × Int → Prop) (v6 : Int) : Prop :=
  K ((0 : Int), v6)
def VC27 (g : TG) (w : LI) (K : Int × Int → Prop) : Prop :=
  VC44 g w (fun (ret12v : Int) => (((!decide (ret12v = (0 : Int))) = true → VC27_k1 K ret12v) ∧ ((!decide (ret12v = (0 : Int))) = false → VC84 g (fun (ret17v : Bool) => (((!ret17v) = true → VC27_k1 K (3 : Int)) ∧ ((!ret17v) = false → (InR (g.1 + g.2.2.1) ∧ VCcr86 g.1 g.2.1 g.2.2.1 g.2.2.2 w (g.1 + g.2.2.1) (0 : Int) (w.length : Int) ([] : List ((Int × (Int × (Int × Int))) × Int)) (fun (ret31v : Int × LK) => (((decide ((1099511627776 : Int) < ret31v.1)) = true → VC27_k1 K (1 : Int)) ∧ ((decide ((1099511627776 : Int) < ret31v.1)) = false → K (ret31v.1, (0 : Int))))))))))))
set_option maxHeartbeats 4000000 in
theorem link27 (g : TG) (w : LI) (K : Int × Int → Prop) (h : VC27 g w K) : ACalls Try.prog 27 [toV1 tG g, toV1 (.sl tI) w] (fun res => ∃ y, res = (fun y => [toV1 tI y.1, toV1 tI y.2]) y ∧ K y) := by
 refine acalls_of_aw [tI, tI] [.t 4, .t 5] Try.func27 rfl rfl rfl ?_
 unfold VC27 at h
 refine sr ?_
 refine rqT 3 ⟨18, [e27b7 w, sp 2 2], [e27b1 g]⟩ (by kernel_rfl) ?_
 refine nsr ?_
 refine rqT 2 ⟨18, [e27b8 g, s1 11 (.pS w)], []⟩ (by kernel_rfl) ?_
 refine awl_inlr [.t 4, .t 5, .t 6] [] [.agg [.pI g.1, .pI g.2.1, .pI g.2.2.1, .p (.sl tR) g.2.2.2], .c (.pS w)] [] rfl rfl (by kernel_rfl) rfl (by kernel_rfl) Try.call54 (by kernel_rfl) (by kernel_rfl) Try.func54 rfl rfl (by kernel_rfl) ?_
 refine aw_conv [] (st' := (⟨36, [e27b10 g, e27b7 w, sA 46 [.pI g.1, .pI g.2.1, .pI g.2.2.1, .p (.sl tR) g.2.2.2], s1 47 (.pS w)], []⟩ : St)) (by kernel_rfl) ?_
 refine withJoinR (σ := Int) (fun s => (⟨36, [s1 4 (.any), sI 5 (0 : Int), sI 6 s], []⟩ : St)) (fun s => VC27_k1 K s) (fun v6 h => ?_) (fun rest1 => ?_)
 ·have h : VC27_k1 K v6 := h
  unfold VC27_k1 at h
  refine inlR_n (ob := (True ∧ True ∧ True ∧ True)) (.tup [.c (.any), .c (.pI (0 : Int)), .c (.pI v6)]) (by kernel_rfl) ⟨trivial, trivial, trivial, trivial⟩ rfl ?_
  refine lpr (st' := (⟨18, [(12, [], .tup [.c (.any), .c (.pI (0 : Int)), .c (.pI v6)])], []⟩ : St)) (by kernel_rfl) ?_
  refine rqT 7 ⟨18, [sI 7 (0 : Int), sI 8 v6], []⟩ (by kernel_rfl) ?_
  refine nsr ?_
  refine rqT 4 ⟨18, [sI 4 (0 : Int), sI 5 v6], []⟩ (by kernel_rfl) ?_
  refine nn ?_
  refine aw_ret ?_
  exact retQ_r (ob := Ts 2 True) _ (by kernel_rfl) (tsI 2 trivial) h
 ·refine srn 4 ⟨36, [e27b7 w, sp 2 2], [e27b1 g]⟩ (by kernel_rfl) rfl ?_
  refine aw_seq ?_
  refine sr ?_
  refine rqT 2 ⟨36, [e27b7 w, sp 2 2, e27b8 g, s1 11 (.pS w)], [e27b1 g]⟩ (by kernel_rfl) ?_
  refine lcq (d := 12) [.d tG, .d (.sl tI)] (fun ret12v => (⟨36, [e27b7 w, sp 2 2, sI 12 ret12v], [e27b1 g]⟩ : St)) (by kernel_rfl) Try.call44 (fun _ => by kernel_rfl) (link44 g w _ h) (fun ret12v h => ?_)
  refine rqT 1 ⟨36, [e27b7 w, sp 2 2, sI 7 ret12v], [e27b1 g]⟩ (by kernel_rfl) ?_
  refine nsr ?_
  refine rqT 2 ⟨36, [e27b7 w, sp 2 2, sI 7 ret12v, sB 14 (!decide (ret12v = (0 : Int)))], [e27b1 g]⟩ (by kernel_rfl) ?_
  refine nn ?_
  refine aw_cond (b := (!decide (ret12v = (0 : Int)))) (by kernel_rfl) (fun hb => ?_) (fun hb => ?_)
  ·have h := h.1 hb
   refine srn 4 ⟨36, [s1 4 (.any), sI 5 (0 : Int), sI 6 ret12v], []⟩ (by kernel_rfl) rfl ?_
   refine aw_ret ?_
   refine thenQ_r ?_
   exact rest1 ret12v h
  ·have h := h.2 hb
   refine aw_skip ?_
   refine thenQ_n ?_
   refine aw_seq ?_
   refine sr ?_
   refine rqT 1 ⟨36, [e27b7 w, sp 2 2, sA 16 [.pI g.1, .pI g.2.1, .pI g.2.2.1, .p (.sl tR) g.2.2.2]], [e27b1 g]⟩ (by kernel_rfl) ?_
   refine lcq (d := 17) [.d tG] (fun ret17v => (⟨36, [e27b7 w, sp 2 2, sB 17 ret17v], [e27b1 g]⟩ : St)) (by kernel_rfl) Try.call84 (fun _ => by kernel_rfl) (link84 g _ h) (fun ret17v h => ?_)
   refine rqT 1 ⟨36, [e27b7 w, sp 2 2, sB 18 (!ret17v)], [e27b1 g]⟩ (by kernel_rfl) ?_
   refine nn ?_
   refine aw_cond (b := (!ret17v)) (by kernel_rfl) (fun hb => ?_) (fun hb => ?_)
   ·have h := h.1 hb
    refine srn 3 ⟨36, [s1 4 (.any), sI 5 (0 : Int), sI 6 (3 : Int)], []⟩ (by kernel_rfl) rfl ?_
    refine aw_ret ?_
    refine thenQ_r ?_
    exact rest1 (3 : Int) h
   ·have h := h.2 hb
    refine aw_skip ?_
    refine thenQ_n ?_
    refine sr ?_
    refine rqT 2 ⟨36, [e27b7 w, sp 2 2, e27b9 g, s1 20 (.pS w)], [e27b1 g]⟩ (by kernel_rfl) ?_
    refine awl_conv [.ren 2 30100] (st' := (⟨36, [e27b7 w, sp 2 30100, e27b9 g, s1 20 (.pS w)], [e27b2 g]⟩ : St)) (by kernel_rfl) ?_
    refine awl_inlr [.t 4] [30100] [.agg [.pI g.1, .pI g.2.1, .pI g.2.2.1, .p (.sl tR) g.2.2.2], .c (.pS w)] [] rfl rfl (by kernel_rfl) rfl (by kernel_rfl) Try.call85 (by kernel_rfl) (by kernel_rfl) Try.func85 rfl rfl (by kernel_rfl) ?_
    refine aw_conv [] (st' := (⟨10, [e27b10 g, e27b7 w, s1 11 (.pS w), sp 12 30100, sA 29 [.pI g.1, .pI g.2.1, .pI g.2.2.1, .p (.sl tR) g.2.2.2], s1 30 (.pS w)], [e27b2 g]⟩ : St)) (by kernel_rfl) ?_
    refine sr ?_
    refine rqT 2 ⟨10, [e27b7 w, sp 2 2, s1 11 (.pS w), sp 12 30100], [e27b1 g, e27b2 g]⟩ (by kernel_rfl) ?_
    refine nsr ?_
    refine rqT 6 ⟨10, [sp 4 9, s1 11 (.pS w), sp 12 30100], [e27b5, e27b3 g w, e27b2 g]⟩ (by kernel_rfl) ?_
    refine nn ?_
    refine aw_ret ?_
    refine inlR_r (ob := True) (.v (.c (.ptr 9 0))) (by kernel_rfl) trivial rfl ?_
    refine lpr (st' := (⟨36, [e27b7 w, sp 2 30100, sp 21 9], [e27b5, e27b3 g w, e27b2 g]⟩ : St)) (by kernel_rfl) ?_
    refine rqT 1 ⟨36, [e27b7 w, sp 2 30100, sp 8 9], [e27b5, e27b3 g w, e27b2 g]⟩ (by kernel_rfl) ?_
    refine nsr ?_
    obtain ⟨o1, h⟩ := h
    refine rq 9 (ob := (Ts 5 (InR (g.1 + g.2.2.1) ∧ Ts 3 True))) (st' := (⟨36, [sp 8 9, sp 22 9, sI 27 (g.1 + g.2.2.1), e27b11 w], [e27b5, e27b3 g w]⟩ : St)) (by kernel_rfl) (tsI 5 ⟨o1, tsI 3 trivial⟩) ?_
    refine awl_conv [.ren 9 70000, .ren 7 70001] (st' := (⟨36, [sp 8 70000, sp 22 70000, sI 27 (g.1 + g.2.2.1), e27b11 w], [e27b6, e27b0 g w]⟩ : St)) (by kernel_rfl) ?_
    refine awl_lcall (σ := Int × LK) [70000, 70001] [70000] [.c (.ptr 70000 0), .c (.pI (g.1 + g.2.2.1)), .agg [.pI (0 : Int), .pI (w.length : Int)]] [] (fun ret31v => .v (.c (.pI ret31v.1))) (fun ret31v => [e27b0 g w, e27b4 ret31v]) (_) [e27b0 g w, e27b6] (fun ret31v => (⟨36, [sI 31 ret31v.1, sp 8 70000, sp 22 70000, sI 27 (g.1 + g.2.2.1), e27b11 w], [e27b0 g w, e27b4 ret31v]⟩ : St)) rfl rfl (by kernel_rfl) rfl (by kernel_rfl) Try.call86 (by kernel_rfl) (by kernel_rfl) (by kernel_rfl) (fun _ _ => rfl) (fun _ => by kernel_rfl) (linkcr86 g.1 g.2.1 g.2.2.1 g.2.2.2 w (g.1 + g.2.2.1) (0 : Int) (w.length : Int) ([] : List ((Int × (Int × (Int × Int))) × Int)) _ h) (fun ret31v h => ?_)
    refine lpr (st' := (⟨36, [sp 8 70000, sI 31 ret31v.1], [e27b0 g w, e27b4 ret31v]⟩ : St)) (by kernel_rfl) ?_
    refine rqT 1 ⟨36, [sp 8 70000, sI 9 ret31v.1], [e27b0 g w, e27b4 ret31v]⟩ (by kernel_rfl) ?_
    refine nn ?_
    refine aw_seq ?_
    refine srn 2 ⟨36, [sp 8 70000, sI 9 ret31v.1, sB 33 (decide ((1099511627776 : Int) < ret31v.1))], [e27b0 g w, e27b4 ret31v]⟩ (by kernel_rfl) rfl ?_
    refine aw_cond (b := (decide ((1099511627776 : Int) < ret31v.1))) (by kernel_rfl) (fun hb => ?_) (fun hb => ?_)
    ·have h := h.1 hb
     refine srn 3 ⟨36, [s1 4 (.any), sI 5 (0 : Int), sI 6 (1 : Int)], []⟩ (by kernel_rfl) rfl ?_
     refine aw_ret ?_
     refine thenQ_r ?_
     exact rest1 (1 : Int) h
    ·have h := h.2 hb
     refine aw_skip ?_
     refine thenQ_n ?_
     refine srn 5 ⟨36, [sp 4 70000, sI 5 ret31v.1, sI 6 (0 : Int)], [e27b0 g w, e27b4 ret31v]⟩ (by kernel_rfl) rfl ?_
     refine aw_ret ?_
     refine inlR_r (ob := (True ∧ True ∧ True ∧ True)) (.tup [.c (.ptr 70000 0), .c (.pI ret31v.1), .c (.pI (0 : Int))]) (by kernel_rfl) ⟨trivial, trivial, trivial, trivial⟩ rfl ?_
     refine lpr (st' := (⟨18, [(12, [], .tup [.c (.ptr 70000 0), .c (.pI ret31v.1), .c (.pI (0 : Int))])], [e27b0 g w, e27b4 ret31v]⟩ : St)) (by kernel_rfl) ?_
     refine rqT 7 ⟨18, [sI 7 ret31v.1, sI 8 (0 : Int)], []⟩ (by kernel_rfl) ?_
     refine nsr ?_
     refine rqT 4 ⟨18, [sI 4 ret31v.1, sI 5 (0 : Int)], []⟩ (by kernel_rfl) ?_
     refine nn ?_
     refine aw_ret ?_
     exact retQ_r (ob := Ts 2 True) _ (by kernel_rfl) (tsI 2 trivial) h
abbrev e97_0 (out : (List (Int × Int))) (fromv2 : Int) (ends : LI) (v10 : Int) : Nat × Path × Con := hA 19 79 (.pr tI tI) (out ++ [(fromv2, (ends.getD (v10).toNat (0 : Int)))])
abbrev e97_1 (ends : LI) : Nat × Path × AV := sI 9 (ends.length : Int)
abbrev e97_2 (out : (List (Int × Int))) : Nat × Path × Con := hA 5005 79 (.pr tI tI) out
abbrev e97_3 : Nat × Path × AV := s1 5 (.own 5005)
-- coppicer/pick.ranges
def VC97_k1 (K : (List (Int × Int)) → Prop) (out : (List (Int × Int))) : Prop :=
  K out
def VC97_l1 (ends : LI) (K : (List (Int × Int)) → Prop) (fromv2 : Int) (v10 : Int) (out : (List (Int × Int))) (X1 : Int × Int × (List (Int × Int)) → Prop) : Prop :=
  (((decide (v10 < (ends.length : Int))) = true → (inIdx v10 ends.length ∧ (roomN (out.length + [(fromv2, (ends.getD (v10).toNat (0 : Int)))].length) ∧ (InR (v10 + (1 : Int)) ∧ X1 ((ends.getD (v10).toNat (0 : Int)), (v10 + (1 : Int)), (out ++ [(fromv2, (ends.getD (v10).toNat (0 : Int)))])))))) ∧ ((decide (v10 < (ends.length : Int))) = false → VC97_k1 K out))
def VC97 (fromv : Int) (ends : LI) (K : (List (Int × Int)) → Prop) : Prop :=
  Loop (σ := Int × Int × (List (Int × Int))) (fun s X => VC97_l1 ends K s.1 s.2.1 s.2.2 X) (fromv, (0 : Int), ([] : List (Int × Int)))
set_option maxHeartbeats 4000000 in
theorem link97 (fromv : Int) (ends : LI) (K : (List (Int × Int)) → Prop) (h : VC97 fromv ends K) : ACalls Try.prog 97 [toV1 tI fromv, toV1 (.sl tI) ends] (fun res => ∃ y, res = (fun y => [toV1 (.sl (.pr tI tI)) y]) y ∧ K y) := by
 refine acalls_of_aw [(.sl (.pr tI tI))] [.t 4] Try.func97 rfl rfl rfl ?_
 unfold VC97 at h
 refine sr ?_
 refine rqT 1 ⟨23, [sI 0 fromv, s1 1 (.pS ends)], []⟩ (by kernel_rfl) ?_
 refine nsr ?_
 refine rqT 1 ⟨23, [sI 0 fromv, s1 1 (.pS ends), s1 5 (.nils)], []⟩ (by kernel_rfl) ?_
 refine nn ?_
 refine aw_seq ?_
 refine srn 3 ⟨23, [sI 0 fromv, s1 5 (.nils), s1 8 (.pS ends), e97_1 ends, sI 10 (0 : Int)], []⟩ (by kernel_rfl) rfl ?_
 refine withJoin (σ := (List (Int × Int))) (fun s => (⟨23, [e97_3], [hA 5005 79 (.pr tI tI) s]⟩ : St)) (fun s => VC97_k1 K s) (fun out h => ?_) (fun rest1 => ?_)
 ·have h : VC97_k1 K out := h
  unfold VC97_k1 at h
  refine thenQ_n ?_
  refine srn 2 ⟨23, [s1 4 (.own 5005)], [e97_2 out]⟩ (by kernel_rfl) rfl ?_
  refine aw_conv [.freeze 5005] (st' := (⟨23, [s1 4 (.p (.sl (.pr tI tI)) out)], []⟩ : St)) (by kernel_rfl) ?_
  refine aw_ret ?_
  exact retQ_r (ob := Ts 1 True) _ (by kernel_rfl) (tsI 1 trivial) h
 ·refine aw_block ?_
  refine aw_conv [.nilOwn 5 5005 79 (.pr tI tI), .prune [0, 5, 8, 9, 10] [5005]] (st' := (⟨23, [sI 0 fromv, e97_3, s1 8 (.pS ends), e97_1 ends, sI 10 (0 : Int)], [hA 5005 79 (.pr tI tI) ([] : List (Int × Int))]⟩ : St)) (by kernel_rfl) ?_
  refine aw_loop (σ := Int × Int × (List (Int × Int))) (fun s => (⟨23, [sI 0 s.1, e97_3, s1 8 (.pS ends), e97_1 ends, sI 10 s.2.1], [hA 5005 79 (.pr tI tI) s.2.2]⟩ : St)) (fun s X => VC97_l1 ends K s.1 s.2.1 s.2.2 X) (s0 := (fromv, (0 : Int), ([] : List (Int × Int)))) (fun s X1 h => ?_) h
  obtain ⟨fromv2, v10, out⟩ := s
  have h : VC97_l1 ends K fromv2 v10 out X1 := h
  unfold VC97_l1 at h
  refine srn 1 ⟨23, [sI 0 fromv2, e97_3, s1 8 (.pS ends), e97_1 ends, sI 10 v10, sB 11 (decide (v10 < (ends.length : Int)))], [e97_2 out]⟩ (by kernel_rfl) rfl ?_
  refine aw_seq ?_
  refine aw_cond (b := (decide (v10 < (ends.length : Int)))) (by kernel_rfl) (fun hb => ?_) (fun hb => ?_)
  ·have h := h.1 hb
   refine aw_skip ?_
   refine thenQ_n ?_
   refine aw_seq ?_
   refine aw_block ?_
   refine sr ?_
   obtain ⟨o1, h⟩ := h
   refine rq 3 (ob := (inIdx v10 ends.length ∧ Ts 2 True)) (st' := (⟨23, [sI 0 fromv2, e97_3, sI 7 (ends.getD (v10).toNat (0 : Int)), s1 8 (.pS ends), e97_1 ends, sI 10 v10], [e97_2 out]⟩ : St)) (by kernel_rfl) (⟨o1, tsI 2 trivial⟩) ?_
   refine nsr ?_
   obtain ⟨o1, h⟩ := h
   refine rq 7 (ob := (Ts 5 (roomN (out.length + [(fromv2, (ends.getD (v10).toNat (0 : Int)))].length) ∧ Ts 1 True))) (st' := (⟨23, [s1 5 (.own 19), sI 7 (ends.getD (v10).toNat (0 : Int)), s1 8 (.pS ends), e97_1 ends, sI 10 v10], [e97_0 out fromv2 ends v10]⟩ : St)) (by kernel_rfl) (tsI 5 ⟨o1, tsI 1 trivial⟩) ?_
   refine nn ?_
   refine aw_region ?_
   refine rqT 2 ⟨23, [sI 0 (ends.getD (v10).toNat (0 : Int)), s1 5 (.own 19), s1 8 (.pS ends), e97_1 ends, sI 10 v10], [e97_0 out fromv2 ends v10]⟩ (by kernel_rfl) ?_
   refine awl_nil ?_
   refine blockQ_n ?_
   refine thenQ_n ?_
   refine aw_region ?_
   obtain ⟨o1, h⟩ := h
   refine rq 2 (ob := (InR (v10 + (1 : Int)) ∧ Ts 1 True)) (st' := (⟨23, [sI 0 (ends.getD (v10).toNat (0 : Int)), s1 5 (.own 19), s1 8 (.pS ends), e97_1 ends, sI 10 (v10 + (1 : Int))], [e97_0 out fromv2 ends v10]⟩ : St)) (by kernel_rfl) (⟨o1, tsI 1 trivial⟩) ?_
   refine awl_conv [.ren 19 20019, .ren 20019 5005] (st' := (⟨23, [sI 0 (ends.getD (v10).toNat (0 : Int)), e97_3, s1 8 (.pS ends), e97_1 ends, sI 10 (v10 + (1 : Int))], [hA 5005 79 (.pr tI tI) (out ++ [(fromv2, (ends.getD (v10).toNat (0 : Int)))])]⟩ : St)) (by kernel_rfl) ?_
   refine awl_nil ?_
   exact thenQ_n ⟨((ends.getD (v10).toNat (0 : Int)), (v10 + (1 : Int)), (out ++ [(fromv2, (ends.getD (v10).toNat (0 : Int)))])), rfl, h⟩
  ·have h := h.2 hb
   refine cpr (st' := (⟨23, [e97_3], [e97_2 out]⟩ : St)) (by kernel_rfl) ?_
   refine aw_exit ?_
   refine thenQ_x ?_
   refine thenQ_x ?_
   refine blockQ_hit ?_
   exact rest1 out h
abbrev e33_0 (c0 : Int) (c1 : Int) (c2 : Int) (c3 : LR) (c4 : LI) : Nat × Path × Con := hB 70000 [.pI c0, .pI c1, .pI c2, .p (.sl tR) c3, .pS c4, .own 70001]
abbrev e33_1 (signs : (List (Int × Int))) : Nat × Path × AV := s1 2 (.p (.sl (.pr tI tI)) signs)
abbrev e33_2 (c5 : LK) : Nat × Path × Con := (70001, [], .dict (.pr tI t3) tI c5)
abbrev e33_3 (ret24v : Int × LK) : Nat × Path × Con := (70001, [], .dict (.pr tI t3) tI ret24v.2)
abbrev e33_4 (l70001 : LK) : Nat × Path × Con := (70001, [], .dict (.pr tI t3) tI l70001)
abbrev e33_5 (signs : (List (Int × Int))) (v12 : Int) : Nat × Path × AV := sA 23 [.pI ((signs.getD (v12).toNat ((0 : Int), (0 : Int))).1), .pI ((signs.getD (v12).toNat ((0 : Int), (0 : Int))).2)]
abbrev e33_6 (c : LI) : Nat × Path × AV := sI 11 (c.length : Int)
abbrev e33_7 : Nat × Path × AV := sp 28 70000
abbrev e33_8 : Nat × Path × AV := sp 0 70000
abbrev e33_9 (c : LI) : Nat × Path × AV := s1 10 (.pS c)
-- coppicer/pick.many
def VCc98_k1 (K : Int × LK → Prop) (n : Int) (l70001 : LK) : Prop :=
  K (n, l70001)
def VCc98_l1 (c0 : Int) (c1 : Int) (c2 : Int) (c3 : LR) (c4 : LI) (c : LI) (signs : (List (Int × Int))) (K : Int × LK → Prop) (n : Int) (v12 : Int) (l70001 : LK) (X1 : Int × Int × LK → Prop) : Prop :=
  (((decide (v12 < (c.length : Int))) = true → (inIdx v12 c.length ∧ (inIdx v12 signs.length ∧ VCcr86 c0 c1 c2 c3 c4 (c.getD (v12).toNat (0 : Int)) ((signs.getD (v12).toNat ((0 : Int), (0 : Int))).1) ((signs.getD (v12).toNat ((0 : Int), (0 : Int))).2) l70001 (fun (ret24v : Int × LK) => VC124 n ret24v.1 (fun (ret25v : Int) => (InR (v12 + (1 : Int)) ∧ X1 (ret25v, (v12 + (1 : Int)), ret24v.2))))))) ∧ ((decide (v12 < (c.length : Int))) = false → VCc98_k1 K n l70001))
def VCc98 (c0 : Int) (c1 : Int) (c2 : Int) (c3 : LR) (c4 : LI) (R : LI → (List (Int × Int)) → LK → (Int × LK → Prop) → Prop) (c : LI) (signs : (List (Int × Int))) (c5 : LK) (K : Int × LK → Prop) : Prop :=
  Loop (σ := Int × Int × LK) (fun s X => VCc98_l1 c0 c1 c2 c3 c4 c signs K s.1 s.2.1 s.2.2 X) ((1 : Int), (0 : Int), c5)
set_option maxHeartbeats 4000000 in
theorem linkc98 (c0 : Int) (c1 : Int) (c2 : Int) (c3 : LR) (c4 : LI) (R : LI → (List (Int × Int)) → LK → (Int × LK → Prop) → Prop) (hR : ∀ (c : LI) (signs : (List (Int × Int))) (c5 : LK) (K : Int × LK → Prop), R c signs c5 K → LCalls Try.prog 98 [70000, 70001] [70000] [e33_0 c0 c1 c2 c3 c4, e33_2 c5] [.c (.ptr 70000 0), .c (.pS c), .c (.p (.sl (.pr tI tI)) signs)] (fun av hp' => ∃ y : Int × LK, av = .v (.c (.pI y.1)) ∧ hp' = [e33_0 c0 c1 c2 c3 c4, (70001, [], .dict (.pr tI t3) tI y.2)] ∧ K y)) (c : LI) (signs : (List (Int × Int))) (c5 : LK) (K : Int × LK → Prop) (h : VCc98 c0 c1 c2 c3 c4 R c signs c5 K) : LCalls Try.prog 98 [70000, 70001] [70000] [e33_0 c0 c1 c2 c3 c4, e33_2 c5] [.c (.ptr 70000 0), .c (.pS c), .c (.p (.sl (.pr tI tI)) signs)] (fun av hp' => ∃ y : Int × LK, av = .v (.c (.pI y.1)) ∧ hp' = [e33_0 c0 c1 c2 c3 c4, (70001, [], .dict (.pr tI t3) tI y.2)] ∧ K y) := by
 refine lcalls_of_aw [70000, 70001] [70000] [.t 6] Try.func98 rfl rfl (by kernel_rfl) (by kernel_rfl) (by kernel_rfl) ?_
 refine aw_conv [] (st' := (⟨28, [e33_8, s1 1 (.pS c), e33_1 signs, e33_7], [e33_0 c0 c1 c2 c3 c4, e33_2 c5]⟩ : St)) (by kernel_rfl) ?_
 unfold VCc98 at h
 refine sr ?_
 refine rqT 1 ⟨28, [e33_8, s1 1 (.pS c), e33_1 signs, e33_7], [e33_0 c0 c1 c2 c3 c4, e33_2 c5]⟩ (by kernel_rfl) ?_
 refine nsr ?_
 refine rqT 1 ⟨28, [e33_8, s1 1 (.pS c), e33_1 signs, sI 7 (1 : Int), e33_7], [e33_0 c0 c1 c2 c3 c4, e33_2 c5]⟩ (by kernel_rfl) ?_
 refine nn ?_
 refine aw_seq ?_
 refine srn 3 ⟨28, [e33_8, e33_1 signs, sI 7 (1 : Int), e33_9 c, e33_6 c, sI 12 (0 : Int), e33_7], [e33_0 c0 c1 c2 c3 c4, e33_2 c5]⟩ (by kernel_rfl) rfl ?_
 refine withJoin (σ := Int × LK) (fun s => (⟨28, [sI 7 s.1, e33_7], [e33_0 c0 c1 c2 c3 c4, (70001, [], .dict (.pr tI t3) tI s.2)]⟩ : St)) (fun s => VCc98_k1 K s.1 s.2) (fun s h => ?_) (fun rest1 => ?_)
 ·obtain ⟨n, l70001⟩ := s
  have h : VCc98_k1 K n l70001 := h
  unfold VCc98_k1 at h
  refine thenQ_n ?_
  refine srn 2 ⟨28, [sI 6 n, e33_7], [e33_0 c0 c1 c2 c3 c4, e33_4 l70001]⟩ (by kernel_rfl) rfl ?_
  refine aw_ret ?_
  exact lret_r (σ := Int × LK) (A := fun y => .v (.c (.pI y.1))) (H := fun y => [e33_0 c0 c1 c2 c3 c4, (70001, [], .dict (.pr tI t3) tI y.2)]) (ob := True) (n, l70001) (by kernel_rfl) trivial rfl (by kernel_rfl) (by kernel_rfl) (by kernel_rfl) h
 ·refine aw_block ?_
  refine aw_loop (σ := Int × Int × LK) (fun s => (⟨28, [e33_8, e33_1 signs, sI 7 s.1, e33_9 c, e33_6 c, sI 12 s.2.1, e33_7], [e33_0 c0 c1 c2 c3 c4, (70001, [], .dict (.pr tI t3) tI s.2.2)]⟩ : St)) (fun s X => VCc98_l1 c0 c1 c2 c3 c4 c signs K s.1 s.2.1 s.2.2 X) (s0 := ((1 : Int), (0 : Int), c5)) (fun s X1 h => ?_) h
  obtain ⟨n, v12, l70001⟩ := s
  have h : VCc98_l1 c0 c1 c2 c3 c4 c signs K n v12 l70001 X1 := h
  unfold VCc98_l1 at h
  refine srn 1 ⟨28, [e33_8, e33_1 signs, sI 7 n, e33_9 c, e33_6 c, sI 12 v12, sB 13 (decide (v12 < (c.length : Int))), e33_7], [e33_0 c0 c1 c2 c3 c4, e33_4 l70001]⟩ (by kernel_rfl) rfl ?_
  refine aw_seq ?_
  refine aw_cond (b := (decide (v12 < (c.length : Int)))) (by kernel_rfl) (fun hb => ?_) (fun hb => ?_)
  ·have h := h.1 hb
   refine aw_skip ?_
   refine thenQ_n ?_
   refine aw_seq ?_
   refine aw_block ?_
   refine sr ?_
   obtain ⟨o1, h⟩ := h
   refine rq 5 (ob := (Ts 1 (inIdx v12 c.length ∧ Ts 3 True))) (st' := (⟨28, [e33_8, e33_1 signs, sI 7 n, sI 8 v12, sI 9 (c.getD (v12).toNat (0 : Int)), e33_9 c, e33_6 c, sI 12 v12, e33_7], [e33_0 c0 c1 c2 c3 c4, e33_4 l70001]⟩ : St)) (by kernel_rfl) (tsI 1 ⟨o1, tsI 3 trivial⟩) ?_
   refine nn ?_
   refine aw_region ?_
   obtain ⟨o1, h⟩ := h
   refine rq 7 (ob := (Ts 5 (inIdx v12 signs.length ∧ Ts 1 True))) (st' := (⟨28, [e33_8, e33_1 signs, e33_9 c, e33_6 c, sI 12 v12, sI 17 n, sp 18 70000, sI 19 (c.getD (v12).toNat (0 : Int)), e33_5 signs v12, e33_7], [e33_0 c0 c1 c2 c3 c4, e33_4 l70001]⟩ : St)) (by kernel_rfl) (tsI 5 ⟨o1, tsI 1 trivial⟩) ?_
   refine awl_lcall (σ := Int × LK) [70000, 70001] [70000] [.c (.ptr 70000 0), .c (.pI (c.getD (v12).toNat (0 : Int))), .agg [.pI ((signs.getD (v12).toNat ((0 : Int), (0 : Int))).1), .pI ((signs.getD (v12).toNat ((0 : Int), (0 : Int))).2)]] [] (fun ret24v => .v (.c (.pI ret24v.1))) (fun ret24v => [e33_0 c0 c1 c2 c3 c4, e33_3 ret24v]) (_) [e33_0 c0 c1 c2 c3 c4, e33_4 l70001] (fun ret24v => (⟨28, [sI 24 ret24v.1, e33_8, e33_1 signs, e33_9 c, e33_6 c, sI 12 v12, sI 17 n, sp 18 70000, sI 19 (c.getD (v12).toNat (0 : Int)), e33_5 signs v12, e33_7], [e33_0 c0 c1 c2 c3 c4, e33_3 ret24v]⟩ : St)) rfl rfl (by kernel_rfl) rfl (by kernel_rfl) Try.call86 (by kernel_rfl) (by kernel_rfl) (by kernel_rfl) (fun _ _ => rfl) (fun _ => by kernel_rfl) (linkcr86 c0 c1 c2 c3 c4 (c.getD (v12).toNat (0 : Int)) ((signs.getD (v12).toNat ((0 : Int), (0 : Int))).1) ((signs.getD (v12).toNat ((0 : Int), (0 : Int))).2) l70001 _ h) (fun ret24v h => ?_)
   refine lpr (st' := (⟨28, [e33_8, e33_1 signs, e33_9 c, e33_6 c, sI 12 v12, sI 17 n, sI 24 ret24v.1, e33_7], [e33_0 c0 c1 c2 c3 c4, e33_3 ret24v]⟩ : St)) (by kernel_rfl) ?_
   refine lcq (d := 25) [.d tI, .d tI] (fun ret25v => (⟨28, [e33_8, e33_1 signs, e33_9 c, e33_6 c, sI 12 v12, sI 25 ret25v, e33_7], [e33_0 c0 c1 c2 c3 c4, e33_3 ret24v]⟩ : St)) (by kernel_rfl) Try.call124 (fun _ => by kernel_rfl) (link124 n ret24v.1 _ h) (fun ret25v h => ?_)
   refine rqT 1 ⟨28, [e33_8, e33_1 signs, sI 7 ret25v, e33_9 c, e33_6 c, sI 12 v12, e33_7], [e33_0 c0 c1 c2 c3 c4, e33_3 ret24v]⟩ (by kernel_rfl) ?_
   refine awl_nil ?_
   refine blockQ_n ?_
   refine thenQ_n ?_
   refine aw_region ?_
   obtain ⟨o1, h⟩ := h
   refine rq 2 (ob := (InR (v12 + (1 : Int)) ∧ Ts 1 True)) (st' := (⟨28, [e33_8, e33_1 signs, sI 7 ret25v, e33_9 c, e33_6 c, sI 12 (v12 + (1 : Int)), e33_7], [e33_0 c0 c1 c2 c3 c4, e33_3 ret24v]⟩ : St)) (by kernel_rfl) (⟨o1, tsI 1 trivial⟩) ?_
   refine awl_nil ?_
   exact thenQ_n ⟨(ret25v, (v12 + (1 : Int)), ret24v.2), rfl, h⟩
  ·have h := h.2 hb
   refine cpr (st' := (⟨28, [sI 7 n, e33_7], [e33_0 c0 c1 c2 c3 c4, e33_4 l70001]⟩ : St)) (by kernel_rfl) ?_
   refine aw_exit ?_
   refine thenQ_x ?_
   refine thenQ_x ?_
   refine blockQ_hit ?_
   exact rest1 (n, l70001) h
def VCc98_it (c0 : Int) (c1 : Int) (c2 : Int) (c3 : LR) (c4 : LI) : Nat → LI → (List (Int × Int)) → LK → (Int × LK → Prop) → Prop
  | 0 => fun _ _ _ _ => False
  | n + 1 => fun c signs c5 K => VCc98 c0 c1 c2 c3 c4 (VCc98_it c0 c1 c2 c3 c4 n) c signs c5 K
def VCcr98 (c0 : Int) (c1 : Int) (c2 : Int) (c3 : LR) (c4 : LI) (c : LI) (signs : (List (Int × Int))) (c5 : LK) (K : Int × LK → Prop) : Prop := ∃ n, VCc98_it c0 c1 c2 c3 c4 n c signs c5 K
theorem linkci98 (c0 : Int) (c1 : Int) (c2 : Int) (c3 : LR) (c4 : LI) : ∀ (n : Nat) (c : LI) (signs : (List (Int × Int))) (c5 : LK) (K : Int × LK → Prop), VCc98_it c0 c1 c2 c3 c4 n c signs c5 K → LCalls Try.prog 98 [70000, 70001] [70000] [e33_0 c0 c1 c2 c3 c4, e33_2 c5] [.c (.ptr 70000 0), .c (.pS c), .c (.p (.sl (.pr tI tI)) signs)] (fun av hp' => ∃ y : Int × LK, av = .v (.c (.pI y.1)) ∧ hp' = [e33_0 c0 c1 c2 c3 c4, (70001, [], .dict (.pr tI t3) tI y.2)] ∧ K y)
  | 0, _, _, _, _, h => False.elim h
  | n + 1, c, signs, c5, K, h => linkc98 c0 c1 c2 c3 c4 (VCc98_it c0 c1 c2 c3 c4 n) (linkci98 c0 c1 c2 c3 c4 n) c signs c5 K h
theorem linkcr98 (c0 : Int) (c1 : Int) (c2 : Int) (c3 : LR) (c4 : LI) (c : LI) (signs : (List (Int × Int))) (c5 : LK) (K : Int × LK → Prop) (h : VCcr98 c0 c1 c2 c3 c4 c signs c5 K) : LCalls Try.prog 98 [70000, 70001] [70000] [e33_0 c0 c1 c2 c3 c4, e33_2 c5] [.c (.ptr 70000 0), .c (.pS c), .c (.p (.sl (.pr tI tI)) signs)] (fun av hp' => ∃ y : Int × LK, av = .v (.c (.pI y.1)) ∧ hp' = [e33_0 c0 c1 c2 c3 c4, (70001, [], .dict (.pr tI t3) tI y.2)] ∧ K y) := by
  obtain ⟨n, h⟩ := h
  exact linkci98 c0 c1 c2 c3 c4 n c signs c5 K h
end Dec
