/-
Printed by dec2.py: of each function its plain demand, and that the demand gives the contract.
-/
import Derived.Test.YtfpchbpnoggogaaProg
import Derived.Test.YtfpchbpnoggogaaDecSo
import Derived.Test.YtfpchbpnoggogaaDecSk
import Derived.Test.YtfpchbpnoggogaaDecMr
import Derived.Test.YtfpchbpnoggogaaDecDg
import Derived.Test.YtfpchbpnoggogaaShelf
set_option linter.unusedSimpArgs false
set_option linter.unusedVariables false
set_option maxRecDepth 100000
namespace Dec
open Go Go.RowKit Go.Proofs
-- coppicer/grammar.Check$1
def VC79 (n : Int) (low : Int) (high : Int) (K : Bool → Prop) : Prop :=
  K ((decide (low ≤ n)) && (decide (n ≤ high)))
set_option maxHeartbeats 4000000 in
theorem link79 (n : Int) (low : Int) (high : Int) (K : Bool → Prop) (h : VC79 n low high K) : ACalls Try.prog 79 [toV1 tI n, toV1 tI low, toV1 tI high] (fun res => ∃ y, res = (fun y => [toV1 .bool y]) y ∧ K y) := by
 refine acalls_of_aw [.bool] [.t 6] Try.func79 rfl rfl rfl ?_
 unfold VC79 at h
 refine sr ?_
 refine rqT 1 ⟨15, [sI 0 n, sI 1 low, sI 2 high], []⟩ (by kernel_rfl) ?_
 refine nsr ?_
 refine rq 9 (ob := (Ts 4 (Ti 3 ((decide (low ≤ n)) = true → True) (Ts 2 True)))) (st' := (⟨15, [sB 6 ((decide (low ≤ n)) && (decide (n ≤ high)))], []⟩ : St)) (by kernel_rfl) (tsI 4 (tiI 3 (fun _ => trivial) (tsI 2 trivial))) ?_
 refine nn ?_
 refine aw_ret ?_
 exact retQ_r (ob := Ts 1 True) _ (by kernel_rfl) (tsI 1 trivial) h
abbrev e55_0 (sv : LR) : Nat × Path × AV := s1 0 (.p (.sl tR) sv)
abbrev e55_1 (sv : LR) : Nat × Path × AV := sI 7 (sv.length : Int)
-- slices.IndexFunc[[]coppicer/api.Rule,coppicer/api.Rule]
def VC55_k1 (K : Int → Prop) : Prop :=
  K (-1 : Int)
def VC55_l1 (sv : LR) (F1 : (Int × LI) → (Bool → Prop) → Prop) (K : Int → Prop) (v8 : Int) (X1 : Int → Prop) : Prop :=
  (((decide (v8 < (sv.length : Int))) = true → (inIdx v8 sv.length ∧ F1 (sv.getD (v8).toNat ((0 : Int), ([] : LI))) (fun (ret16v : Bool) => ((ret16v = true → K v8) ∧ (ret16v = false → (InR (v8 + (1 : Int)) ∧ X1 (v8 + (1 : Int)))))))) ∧ ((decide (v8 < (sv.length : Int))) = false → VC55_k1 K))
def VC55 (sv : LR) (F1 : (Int × LI) → (Bool → Prop) → Prop) (K : Int → Prop) : Prop :=
  Loop (σ := Int) (fun s X => VC55_l1 sv F1 K s X) (0 : Int)
set_option maxHeartbeats 4000000 in
theorem link55 (sv : LR) (fv1 : FuncId) (cv1 : List Dat) (F1 : (Int × LI) → (Bool → Prop) → Prop) (hF1 : FnIs Try.prog fv1 cv1 (fun (x : (Int × LI)) => [toV1 tR x]) (fun (y : Bool) => [toV1 .bool y]) F1) (K : Int → Prop) (h : VC55 sv F1 K) : ACalls Try.prog 55 [toV1 (.sl tR) sv, .c (.fn fv1 cv1)] (fun res => ∃ y, res = (fun y => [toV1 tI y]) y ∧ K y) := by
 refine acalls_of_aw [tI] [.t 4] Try.func55 rfl rfl rfl ?_
 unfold VC55 at h
 refine srn 1 ⟨19, [e55_0 sv, s1 1 (.fn fv1 cv1)], []⟩ (by kernel_rfl) rfl ?_
 refine aw_seq ?_
 refine srn 3 ⟨19, [e55_0 sv, s1 1 (.fn fv1 cv1), e55_1 sv, sI 8 (0 : Int)], []⟩ (by kernel_rfl) rfl ?_
 refine withJoin (σ := Unit) (fun s => (⟨19, [], []⟩ : St)) (fun s => VC55_k1 K) (fun s h => ?_) (fun rest1 => ?_)
 ·have h : VC55_k1 K := h
  unfold VC55_k1 at h
  refine thenQ_n ?_
  refine srn 1 ⟨19, [sI 4 (-1 : Int)], []⟩ (by kernel_rfl) rfl ?_
  refine aw_ret ?_
  exact retQ_r (ob := Ts 1 True) _ (by kernel_rfl) (tsI 1 trivial) h
 ·refine aw_block ?_
  refine aw_loop (σ := Int) (fun s => (⟨19, [e55_0 sv, s1 1 (.fn fv1 cv1), e55_1 sv, sI 8 s], []⟩ : St)) (fun s X => VC55_l1 sv F1 K s X) (s0 := (0 : Int)) (fun v8 X1 h => ?_) h
  have h : VC55_l1 sv F1 K v8 X1 := h
  unfold VC55_l1 at h
  refine srn 1 ⟨19, [e55_0 sv, s1 1 (.fn fv1 cv1), e55_1 sv, sI 8 v8, sB 9 (decide (v8 < (sv.length : Int)))], []⟩ (by kernel_rfl) rfl ?_
  refine aw_seq ?_
  refine aw_cond (b := (decide (v8 < (sv.length : Int)))) (by kernel_rfl) (fun hb => ?_) (fun hb => ?_)
  ·have h := h.1 hb
   refine aw_skip ?_
   refine thenQ_n ?_
   refine aw_seq ?_
   refine aw_block ?_
   refine sr ?_
   refine rqT 2 ⟨19, [e55_0 sv, s1 1 (.fn fv1 cv1), sI 5 v8, e55_1 sv, sI 8 v8], []⟩ (by kernel_rfl) ?_
   refine nsr ?_
   obtain ⟨o1, h⟩ := h
   refine rq 5 (ob := (Ts 3 (inIdx v8 sv.length ∧ Ts 1 True))) (st' := (⟨19, [e55_0 sv, s1 1 (.fn fv1 cv1), sI 5 v8, e55_1 sv, sI 8 v8, s1 11 (.fn fv1 cv1), sA 15 [.pI ((sv.getD (v8).toNat ((0 : Int), ([] : LI))).1), .pS ((sv.getD (v8).toNat ((0 : Int), ([] : LI))).2)]], []⟩ : St)) (by kernel_rfl) (tsI 3 ⟨o1, tsI 1 trivial⟩) ?_
   refine lcq (d := 16) [.d tR] (fun ret16v => (⟨19, [e55_0 sv, s1 1 (.fn fv1 cv1), sI 5 v8, e55_1 sv, sI 8 v8, sB 16 ret16v], []⟩ : St)) (by kernel_rfl) hF1.1 (fun _ => by kernel_rfl) (hF1.2 (sv.getD (v8).toNat ((0 : Int), ([] : LI))) _ h) (fun ret16v h => ?_)
   refine nn ?_
   refine aw_cond (b := ret16v) (by kernel_rfl) (fun hb => ?_) (fun hb => ?_)
   ·have h := h.1 hb
    refine srn 2 ⟨19, [sI 4 v8], []⟩ (by kernel_rfl) rfl ?_
    refine aw_ret ?_
    refine blockQ_r ?_
    refine thenQ_r ?_
    refine thenQ_r ?_
    refine blockQ_r ?_
    refine thenQ_r ?_
    exact retQ_r (ob := Ts 1 True) _ (by kernel_rfl) (tsI 1 trivial) h
   ·have h := h.2 hb
    refine aw_skip ?_
    refine blockQ_n ?_
    refine thenQ_n ?_
    refine aw_region ?_
    obtain ⟨o1, h⟩ := h
    refine rq 2 (ob := (InR (v8 + (1 : Int)) ∧ Ts 1 True)) (st' := (⟨19, [e55_0 sv, s1 1 (.fn fv1 cv1), e55_1 sv, sI 8 (v8 + (1 : Int))], []⟩ : St)) (by kernel_rfl) (⟨o1, tsI 1 trivial⟩) ?_
    refine awl_nil ?_
    exact thenQ_n ⟨(v8 + (1 : Int)), rfl, h⟩
  ·have h := h.2 hb
   refine cpr (st' := (⟨19, [], []⟩ : St)) (by kernel_rfl) ?_
   refine aw_exit ?_
   refine thenQ_x ?_
   refine thenQ_x ?_
   refine blockQ_hit ?_
   exact rest1 () h
-- slices.ContainsFunc[[]coppicer/api.Rule,coppicer/api.Rule]
def VC77 (sv : LR) (F1 : (Int × LI) → (Bool → Prop) → Prop) (K : Bool → Prop) : Prop :=
  VC55 sv F1 (fun (ret7v : Int) => K (decide ((0 : Int) ≤ ret7v)))
set_option maxHeartbeats 4000000 in
theorem link77 (sv : LR) (fv1 : FuncId) (cv1 : List Dat) (F1 : (Int × LI) → (Bool → Prop) → Prop) (hF1 : FnIs Try.prog fv1 cv1 (fun (x : (Int × LI)) => [toV1 tR x]) (fun (y : Bool) => [toV1 .bool y]) F1) (K : Bool → Prop) (h : VC77 sv F1 K) : ACalls Try.prog 77 [toV1 (.sl tR) sv, .c (.fn fv1 cv1)] (fun res => ∃ y, res = (fun y => [toV1 .bool y]) y ∧ K y) := by
 refine acalls_of_aw [.bool] [.t 4] Try.func77 rfl rfl rfl ?_
 unfold VC77 at h
 refine sr ?_
 refine rqT 1 ⟨9, [s1 0 (.p (.sl tR) sv), s1 1 (.fn fv1 cv1)], []⟩ (by kernel_rfl) ?_
 refine nsr ?_
 refine rqT 2 ⟨9, [s1 5 (.p (.sl tR) sv), s1 6 (.fn fv1 cv1)], []⟩ (by kernel_rfl) ?_
 refine lcq (d := 7) [.d (.sl tR), .fn] (fun ret7v => (⟨9, [sI 7 ret7v], []⟩ : St)) (by kernel_rfl) Try.call55 (fun _ => by kernel_rfl) (link55 sv fv1 cv1 F1 hF1 _ h) (fun ret7v h => ?_)
 refine rqT 2 ⟨9, [sB 4 (decide ((0 : Int) ≤ ret7v))], []⟩ (by kernel_rfl) ?_
 refine nn ?_
 refine aw_ret ?_
 exact retQ_r (ob := Ts 1 True) _ (by kernel_rfl) (tsI 1 trivial) h
-- coppicer/grammar.Check$2
def VC80 (rv : (Int × LI)) (K : Bool → Prop) : Prop :=
  K (decide ((4 : Int) < (rv.2.length : Int)))
set_option maxHeartbeats 4000000 in
theorem link80 (rv : (Int × LI)) (K : Bool → Prop) (h : VC80 rv K) : ACalls Try.prog 80 [toV1 tR rv] (fun res => ∃ y, res = (fun y => [toV1 .bool y]) y ∧ K y) := by
 refine acalls_of_aw [.bool] [.t 2] Try.func80 rfl rfl rfl ?_
 unfold VC80 at h
 refine sr ?_
 refine rqT 2 ⟨7, [sp 1 1], [hB 1 [.pI rv.1, .pS rv.2]]⟩ (by kernel_rfl) ?_
 refine nsr ?_
 refine rqT 5 ⟨7, [sB 2 (decide ((4 : Int) < (rv.2.length : Int)))], []⟩ (by kernel_rfl) ?_
 refine nn ?_
 refine aw_ret ?_
 exact retQ_r (ob := Ts 1 True) _ (by kernel_rfl) (tsI 1 trivial) h
-- coppicer/grammar.IsSigns$1
def VC107 (sv : Int) (a1 : TG) (K : Bool → Prop) : Prop :=
  (((decide (sv < (0 : Int))) = false → InR (a1.1 + a1.2.1)) ∧ K ((decide (sv < (0 : Int))) || (decide ((a1.1 + a1.2.1) ≤ sv))))
set_option maxHeartbeats 4000000 in
theorem link107 (sv : Int) (a1 : TG) (K : Bool → Prop) (h : VC107 sv a1 K) : ACalls Try.prog 107 [toV1 tI sv, .c (.ad tG a1)] (fun res => ∃ y, res = (fun y => [toV1 .bool y]) y ∧ K y) := by
 refine acalls_of_aw [.bool] [.t 3] Try.func107 rfl rfl rfl ?_
 unfold VC107 at h
 refine sr ?_
 refine rqT 1 ⟨15, [sI 0 sv, s1 1 (.ad tG a1)], []⟩ (by kernel_rfl) ?_
 refine nsr ?_
 obtain ⟨o1, h⟩ := h
 refine rq 12 (ob := (Ts 3 (Ti 5 ((decide (sv < (0 : Int))) = false → True) (((decide (sv < (0 : Int))) = false → InR (a1.1 + a1.2.1)) ∧ ((decide (sv < (0 : Int))) = false → True) ∧ Ts 2 True)))) (st' := (⟨15, [sB 3 ((decide (sv < (0 : Int))) || (decide ((a1.1 + a1.2.1) ≤ sv)))], []⟩ : St)) (by kernel_rfl) (tsI 3 (tiI 5 (fun _ => trivial) (⟨o1, ⟨(fun _ => trivial), tsI 2 trivial⟩⟩))) ?_
 refine nn ?_
 refine aw_ret ?_
 exact retQ_r (ob := Ts 1 True) _ (by kernel_rfl) (tsI 1 trivial) h
abbrev e88_0 (sv : LI) : Nat × Path × AV := sI 7 (sv.length : Int)
-- slices.IndexFunc[[]int,int]
def VC88_k1 (K : Int → Prop) : Prop :=
  K (-1 : Int)
def VC88_l1 (sv : LI) (F1 : Int → (Bool → Prop) → Prop) (K : Int → Prop) (v8 : Int) (X1 : Int → Prop) : Prop :=
  (((decide (v8 < (sv.length : Int))) = true → (inIdx v8 sv.length ∧ F1 (sv.getD (v8).toNat (0 : Int)) (fun (ret16v : Bool) => ((ret16v = true → K v8) ∧ (ret16v = false → (InR (v8 + (1 : Int)) ∧ X1 (v8 + (1 : Int)))))))) ∧ ((decide (v8 < (sv.length : Int))) = false → VC88_k1 K))
def VC88 (sv : LI) (F1 : Int → (Bool → Prop) → Prop) (K : Int → Prop) : Prop :=
  Loop (σ := Int) (fun s X => VC88_l1 sv F1 K s X) (0 : Int)
set_option maxHeartbeats 4000000 in
theorem link88 (sv : LI) (fv1 : FuncId) (cv1 : List Dat) (F1 : Int → (Bool → Prop) → Prop) (hF1 : FnIs Try.prog fv1 cv1 (fun (x : Int) => [toV1 tI x]) (fun (y : Bool) => [toV1 .bool y]) F1) (K : Int → Prop) (h : VC88 sv F1 K) : ACalls Try.prog 88 [toV1 (.sl tI) sv, .c (.fn fv1 cv1)] (fun res => ∃ y, res = (fun y => [toV1 tI y]) y ∧ K y) := by
 refine acalls_of_aw [tI] [.t 4] Try.func88 rfl rfl rfl ?_
 unfold VC88 at h
 refine srn 1 ⟨19, [s1 0 (.pS sv), s1 1 (.fn fv1 cv1)], []⟩ (by kernel_rfl) rfl ?_
 refine aw_seq ?_
 refine srn 3 ⟨19, [s1 0 (.pS sv), s1 1 (.fn fv1 cv1), e88_0 sv, sI 8 (0 : Int)], []⟩ (by kernel_rfl) rfl ?_
 refine withJoin (σ := Unit) (fun s => (⟨19, [], []⟩ : St)) (fun s => VC88_k1 K) (fun s h => ?_) (fun rest1 => ?_)
 ·have h : VC88_k1 K := h
  unfold VC88_k1 at h
  refine thenQ_n ?_
  refine srn 1 ⟨19, [sI 4 (-1 : Int)], []⟩ (by kernel_rfl) rfl ?_
  refine aw_ret ?_
  exact retQ_r (ob := Ts 1 True) _ (by kernel_rfl) (tsI 1 trivial) h
 ·refine aw_block ?_
  refine aw_loop (σ := Int) (fun s => (⟨19, [s1 0 (.pS sv), s1 1 (.fn fv1 cv1), e88_0 sv, sI 8 s], []⟩ : St)) (fun s X => VC88_l1 sv F1 K s X) (s0 := (0 : Int)) (fun v8 X1 h => ?_) h
  have h : VC88_l1 sv F1 K v8 X1 := h
  unfold VC88_l1 at h
  refine srn 1 ⟨19, [s1 0 (.pS sv), s1 1 (.fn fv1 cv1), e88_0 sv, sI 8 v8, sB 9 (decide (v8 < (sv.length : Int)))], []⟩ (by kernel_rfl) rfl ?_
  refine aw_seq ?_
  refine aw_cond (b := (decide (v8 < (sv.length : Int)))) (by kernel_rfl) (fun hb => ?_) (fun hb => ?_)
  ·have h := h.1 hb
   refine aw_skip ?_
   refine thenQ_n ?_
   refine aw_seq ?_
   refine aw_block ?_
   refine sr ?_
   refine rqT 2 ⟨19, [s1 0 (.pS sv), s1 1 (.fn fv1 cv1), sI 5 v8, e88_0 sv, sI 8 v8], []⟩ (by kernel_rfl) ?_
   refine nsr ?_
   obtain ⟨o1, h⟩ := h
   refine rq 5 (ob := (Ts 3 (inIdx v8 sv.length ∧ Ts 1 True))) (st' := (⟨19, [s1 0 (.pS sv), s1 1 (.fn fv1 cv1), sI 5 v8, e88_0 sv, sI 8 v8, s1 11 (.fn fv1 cv1), sI 15 (sv.getD (v8).toNat (0 : Int))], []⟩ : St)) (by kernel_rfl) (tsI 3 ⟨o1, tsI 1 trivial⟩) ?_
   refine lcq (d := 16) [.d tI] (fun ret16v => (⟨19, [s1 0 (.pS sv), s1 1 (.fn fv1 cv1), sI 5 v8, e88_0 sv, sI 8 v8, sB 16 ret16v], []⟩ : St)) (by kernel_rfl) hF1.1 (fun _ => by kernel_rfl) (hF1.2 (sv.getD (v8).toNat (0 : Int)) _ h) (fun ret16v h => ?_)
   refine nn ?_
   refine aw_cond (b := ret16v) (by kernel_rfl) (fun hb => ?_) (fun hb => ?_)
   ·have h := h.1 hb
    refine srn 2 ⟨19, [sI 4 v8], []⟩ (by kernel_rfl) rfl ?_
    refine aw_ret ?_
    refine blockQ_r ?_
    refine thenQ_r ?_
    refine thenQ_r ?_
    refine blockQ_r ?_
    refine thenQ_r ?_
    exact retQ_r (ob := Ts 1 True) _ (by kernel_rfl) (tsI 1 trivial) h
   ·have h := h.2 hb
    refine aw_skip ?_
    refine blockQ_n ?_
    refine thenQ_n ?_
    refine aw_region ?_
    obtain ⟨o1, h⟩ := h
    refine rq 2 (ob := (InR (v8 + (1 : Int)) ∧ Ts 1 True)) (st' := (⟨19, [s1 0 (.pS sv), s1 1 (.fn fv1 cv1), e88_0 sv, sI 8 (v8 + (1 : Int))], []⟩ : St)) (by kernel_rfl) (⟨o1, tsI 1 trivial⟩) ?_
    refine awl_nil ?_
    exact thenQ_n ⟨(v8 + (1 : Int)), rfl, h⟩
  ·have h := h.2 hb
   refine cpr (st' := (⟨19, [], []⟩ : St)) (by kernel_rfl) ?_
   refine aw_exit ?_
   refine thenQ_x ?_
   refine thenQ_x ?_
   refine blockQ_hit ?_
   exact rest1 () h
-- slices.ContainsFunc[[]int,int]
def VC59 (sv : LI) (F1 : Int → (Bool → Prop) → Prop) (K : Bool → Prop) : Prop :=
  VC88 sv F1 (fun (ret7v : Int) => K (decide ((0 : Int) ≤ ret7v)))
set_option maxHeartbeats 4000000 in
theorem link59 (sv : LI) (fv1 : FuncId) (cv1 : List Dat) (F1 : Int → (Bool → Prop) → Prop) (hF1 : FnIs Try.prog fv1 cv1 (fun (x : Int) => [toV1 tI x]) (fun (y : Bool) => [toV1 .bool y]) F1) (K : Bool → Prop) (h : VC59 sv F1 K) : ACalls Try.prog 59 [toV1 (.sl tI) sv, .c (.fn fv1 cv1)] (fun res => ∃ y, res = (fun y => [toV1 .bool y]) y ∧ K y) := by
 refine acalls_of_aw [.bool] [.t 4] Try.func59 rfl rfl rfl ?_
 unfold VC59 at h
 refine sr ?_
 refine rqT 1 ⟨9, [s1 0 (.pS sv), s1 1 (.fn fv1 cv1)], []⟩ (by kernel_rfl) ?_
 refine nsr ?_
 refine rqT 2 ⟨9, [s1 5 (.pS sv), s1 6 (.fn fv1 cv1)], []⟩ (by kernel_rfl) ?_
 refine lcq (d := 7) [.d (.sl tI), .fn] (fun ret7v => (⟨9, [sI 7 ret7v], []⟩ : St)) (by kernel_rfl) Try.call88 (fun _ => by kernel_rfl) (link88 sv fv1 cv1 F1 hF1 _ h) (fun ret7v h => ?_)
 refine rqT 2 ⟨9, [sB 4 (decide ((0 : Int) ≤ ret7v))], []⟩ (by kernel_rfl) ?_
 refine nn ?_
 refine aw_ret ?_
 exact retQ_r (ob := Ts 1 True) _ (by kernel_rfl) (tsI 1 trivial) h
abbrev e81_0 (g : TG) : Nat × Path × Con := hB 2 [.pI g.1, .pI g.2.1, .pI g.2.2.1, .p (.sl tR) g.2.2.2]
-- coppicer/grammar.IsSigns
def VC81 (g : TG) (l : LI) (K : Bool → Prop) : Prop :=
  VC59 l (fun (x : Int) (K : Bool → Prop) => VC107 x g K) (fun (ret7v : Bool) => K (!ret7v))
set_option maxHeartbeats 4000000 in
theorem link81 (g : TG) (l : LI) (K : Bool → Prop) (h : VC81 g l K) : ACalls Try.prog 81 [toV1 tG g, toV1 (.sl tI) l] (fun res => ∃ y, res = (fun y => [toV1 .bool y]) y ∧ K y) := by
 refine acalls_of_aw [.bool] [.t 4] Try.func81 rfl rfl rfl ?_
 unfold VC81 at h
 refine sr ?_
 refine rqT 2 ⟨9, [s1 1 (.pS l), sp 2 2], [e81_0 g]⟩ (by kernel_rfl) ?_
 refine nsr ?_
 refine rqT 1 ⟨9, [sp 2 2, s1 5 (.pS l)], [e81_0 g]⟩ (by kernel_rfl) ?_
 refine awl_conv [.freezeB 2 tG] (st' := (⟨9, [s1 2 (.ad tG g), s1 5 (.pS l)], []⟩ : St)) (by kernel_rfl) ?_
 refine rqT 1 ⟨9, [s1 5 (.pS l), s1 6 (.fn 107 [(⟨tG, g⟩ : Dat)])], []⟩ (by kernel_rfl) ?_
 refine lcq (d := 7) [.d (.sl tI), .fn] (fun ret7v => (⟨9, [sB 7 ret7v], []⟩ : St)) (by kernel_rfl) Try.call59 (fun _ => by kernel_rfl) (link59 l 107 [(⟨tG, g⟩ : Dat)] (fun (x : Int) (K : Bool → Prop) => VC107 x g K) ⟨Try.call107, fun x K h => link107 x g K h⟩ _ h) (fun ret7v h => ?_)
 refine rqT 2 ⟨9, [sB 4 (!ret7v)], []⟩ (by kernel_rfl) ?_
 refine nn ?_
 refine aw_ret ?_
 exact retQ_r (ob := Ts 1 True) _ (by kernel_rfl) (tsI 1 trivial) h
abbrev e51_0 (g : TG) : Nat × Path × Con := hB 1 [.pI g.1, .pI g.2.1, .pI g.2.2.1, .p (.sl tR) g.2.2.2]
abbrev e51_1 (g : TG) : Nat × Path × AV := s1 36 (.p (.sl tR) g.2.2.2)
abbrev e51_2 (g : TG) (v38 : Int) : Nat × Path × Con := hB 5 [.pI ((g.2.2.2.getD (v38).toNat ((0 : Int), ([] : LI))).1), .pS ((g.2.2.2.getD (v38).toNat ((0 : Int), ([] : LI))).2)]
abbrev e51_3 : Nat × Path × AV := s1 3 (.fn 79 [])
abbrev e51_4 (g : TG) : Nat × Path × AV := sI 37 (g.2.2.2.length : Int)
-- coppicer/grammar.Check
def VC51_k1 (K : Int → Prop) : Prop :=
  K (0 : Int)
def VC51_l1 (g : TG) (K : Int → Prop) (v38 : Int) (X1 : Int → Prop) : Prop :=
  (((decide (v38 < (g.2.2.2.length : Int))) = true → (inIdx v38 g.2.2.2.length ∧ (InR (g.2.1 - (1 : Int)) ∧ VC79 ((g.2.2.2.getD (v38).toNat ((0 : Int), ([] : LI))).1) (0 : Int) (g.2.1 - (1 : Int)) (fun (ret48v : Bool) => gcall (α := Bool) (!(!ret48v)) (VC81 g ((g.2.2.2.getD (v38).toNat ((0 : Int), ([] : LI))).2)) false (fun (ret54v : Bool) => ((((!ret48v) || (!ret54v)) = true → K (2 : Int)) ∧ (((!ret48v) || (!ret54v)) = false → (InR (v38 + (1 : Int)) ∧ X1 (v38 + (1 : Int)))))))))) ∧ ((decide (v38 < (g.2.2.2.length : Int))) = false → VC51_k1 K))
def VC51 (g : TG) (K : Int → Prop) : Prop :=
  VC79 g.1 (1 : Int) (3 : Int) (fun (ret9v : Bool) => gcall (α := Bool) (!(!ret9v)) (VC79 g.2.1 (1 : Int) (5 : Int)) false (fun (ret15v : Bool) => (((((!ret9v) || (!ret15v)) || (decide ((10 : Int) < (g.2.2.2.length : Int)))) = true → K (1 : Int)) ∧ ((((!ret9v) || (!ret15v)) || (decide ((10 : Int) < (g.2.2.2.length : Int)))) = false → VC77 g.2.2.2 (fun (x : (Int × LI)) (K : Bool → Prop) => VC80 x K) (fun (ret26v : Bool) => ((ret26v = true → K (1 : Int)) ∧ (ret26v = false → (InR (g.2.1 - (1 : Int)) ∧ VC79 g.2.2.1 (0 : Int) (g.2.1 - (1 : Int)) (fun (ret33v : Bool) => (((!ret33v) = true → K (2 : Int)) ∧ ((!ret33v) = false → Loop (σ := Int) (fun s X => VC51_l1 g K s X) (0 : Int))))))))))))
set_option maxHeartbeats 4000000 in
theorem link51 (g : TG) (K : Int → Prop) (h : VC51 g K) : ACalls Try.prog 51 [toV1 tG g] (fun res => ∃ y, res = (fun y => [toV1 tI y]) y ∧ K y) := by
 refine acalls_of_aw [tI] [.t 2] Try.func51 rfl rfl rfl ?_
 unfold VC51 at h
 refine sr ?_
 refine rqT 2 ⟨58, [sp 1 1], [e51_0 g]⟩ (by kernel_rfl) ?_
 refine nsr ?_
 refine rqT 1 ⟨58, [sp 1 1, e51_3], [e51_0 g]⟩ (by kernel_rfl) ?_
 refine nn ?_
 refine aw_seq ?_
 refine sr ?_
 refine rqT 3 ⟨58, [sp 1 1, e51_3, s1 6 (.fn 79 []), sI 8 g.1], [e51_0 g]⟩ (by kernel_rfl) ?_
 refine lcq (d := 9) [.d tI, .d tI, .d tI] (fun ret9v => (⟨58, [sp 1 1, e51_3, sB 9 ret9v], [e51_0 g]⟩ : St)) (by kernel_rfl) Try.call79 (fun _ => by kernel_rfl) (link79 g.1 (1 : Int) (3 : Int) _ h) (fun ret9v h => ?_)
 refine rq 5 (ob := (Ts 2 (Ti 3 ((!ret9v) = false → True) True))) (st' := (⟨58, [sp 1 1, e51_3, sB 11 (!ret9v), (12, [(11, false)], .v (.c (.fn 79 []))), (14, [(11, false)], .v (.c (.pI g.2.1)))], [e51_0 g]⟩ : St)) (by kernel_rfl) (tsI 2 (tiI 3 (fun _ => trivial) trivial)) ?_
 refine awl_callk (p := [(11, false)]) (l := [toV1 tI g.2.1, toV1 tI (1 : Int), toV1 tI (5 : Int)]) (cl := []) false [.d tI, .d tI, .d tI] [1, 3, 11, 15] [1] (fun (ret15v : Bool) => (((((!ret9v) || (!ret15v)) || (decide ((10 : Int) < (g.2.2.2.length : Int)))) = true → K (1 : Int)) ∧ ((((!ret9v) || (!ret15v)) || (decide ((10 : Int) < (g.2.2.2.length : Int)))) = false → VC77 g.2.2.2 (fun (x : (Int × LI)) (K : Bool → Prop) => VC80 x K) (fun (ret26v : Bool) => ((ret26v = true → K (1 : Int)) ∧ (ret26v = false → (InR (g.2.1 - (1 : Int)) ∧ VC79 g.2.2.1 (0 : Int) (g.2.1 - (1 : Int)) (fun (ret33v : Bool) => (((!ret33v) = true → K (2 : Int)) ∧ ((!ret33v) = false → Loop (σ := Int) (fun s X => VC51_l1 g K s X) (0 : Int))))))))))) (fun ret15v => [toV1 .bool ret15v]) (fun ret15v => (⟨58, [sp 1 1, e51_3, sB 11 (!ret9v), (15, [(11, false)], .v (.c (.pB ret15v)))], [e51_0 g]⟩ : St)) (by kernel_rfl) rfl (by kernel_rfl) rfl (by kernel_rfl) Try.call79 (by kernel_rfl) (fun ret15v => by kernel_rfl) (fun e => by cases e) (fun hg => link79 g.2.1 (1 : Int) (5 : Int) _ (by have := gcall_T h (show (!(!ret9v)) = true from hg); exact this)) (fun hg => ⟨false, by have := gcall_F h (show (!(!ret9v)) = false from hg); exact this⟩) (fun ret15v h => ?_)
 refine rq 8 (ob := (((!ret9v) = false → True) ∧ Ts 2 (Ti 4 (((!ret9v) || (!ret15v)) = false → True) (Ts 1 True)))) (st' := (⟨58, [sp 1 1, e51_3, sB 23 (((!ret9v) || (!ret15v)) || (decide ((10 : Int) < (g.2.2.2.length : Int))))], [e51_0 g]⟩ : St)) (by kernel_rfl) (⟨(fun _ => trivial), tsI 2 (tiI 4 (fun _ => trivial) (tsI 1 trivial))⟩) ?_
 refine nn ?_
 refine aw_cond (b := (((!ret9v) || (!ret15v)) || (decide ((10 : Int) < (g.2.2.2.length : Int))))) (by kernel_rfl) (fun hb => ?_) (fun hb => ?_)
 ·have h := h.1 hb
  refine srn 1 ⟨58, [sI 2 (1 : Int)], []⟩ (by kernel_rfl) rfl ?_
  refine aw_ret ?_
  refine thenQ_r ?_
  exact retQ_r (ob := Ts 1 True) _ (by kernel_rfl) (tsI 1 trivial) h
 ·have h := h.2 hb
  refine aw_skip ?_
  refine thenQ_n ?_
  refine aw_seq ?_
  refine sr ?_
  refine rqT 2 ⟨58, [sp 1 1, e51_3, s1 25 (.p (.sl tR) g.2.2.2)], [e51_0 g]⟩ (by kernel_rfl) ?_
  refine lcq (d := 26) [.d (.sl tR), .fn] (fun ret26v => (⟨58, [sp 1 1, e51_3, sB 26 ret26v], [e51_0 g]⟩ : St)) (by kernel_rfl) Try.call77 (fun _ => by kernel_rfl) (link77 g.2.2.2 80 [] (fun (x : (Int × LI)) (K : Bool → Prop) => VC80 x K) ⟨Try.call80, fun x K h => link80 x K h⟩ _ h) (fun ret26v h => ?_)
  refine nn ?_
  refine aw_cond (b := ret26v) (by kernel_rfl) (fun hb => ?_) (fun hb => ?_)
  ·have h := h.1 hb
   refine srn 1 ⟨58, [sI 2 (1 : Int)], []⟩ (by kernel_rfl) rfl ?_
   refine aw_ret ?_
   refine thenQ_r ?_
   exact retQ_r (ob := Ts 1 True) _ (by kernel_rfl) (tsI 1 trivial) h
  ·have h := h.2 hb
   refine aw_skip ?_
   refine thenQ_n ?_
   refine aw_seq ?_
   refine sr ?_
   obtain ⟨o1, h⟩ := h
   refine rq 6 (ob := (Ts 5 (InR (g.2.1 - (1 : Int)) ∧ True))) (st' := (⟨58, [sp 1 1, e51_3, s1 27 (.fn 79 []), sI 29 g.2.2.1, sI 32 (g.2.1 - (1 : Int))], [e51_0 g]⟩ : St)) (by kernel_rfl) (tsI 5 ⟨o1, trivial⟩) ?_
   refine lcq (d := 33) [.d tI, .d tI, .d tI] (fun ret33v => (⟨58, [sp 1 1, e51_3, sB 33 ret33v], [e51_0 g]⟩ : St)) (by kernel_rfl) Try.call79 (fun _ => by kernel_rfl) (link79 g.2.2.1 (0 : Int) (g.2.1 - (1 : Int)) _ h) (fun ret33v h => ?_)
   refine rqT 1 ⟨58, [sp 1 1, e51_3, sB 34 (!ret33v)], [e51_0 g]⟩ (by kernel_rfl) ?_
   refine nn ?_
   refine aw_cond (b := (!ret33v)) (by kernel_rfl) (fun hb => ?_) (fun hb => ?_)
   ·have h := h.1 hb
    refine srn 1 ⟨58, [sI 2 (2 : Int)], []⟩ (by kernel_rfl) rfl ?_
    refine aw_ret ?_
    refine thenQ_r ?_
    exact retQ_r (ob := Ts 1 True) _ (by kernel_rfl) (tsI 1 trivial) h
   ·have h := h.2 hb
    refine aw_skip ?_
    refine thenQ_n ?_
    refine aw_seq ?_
    refine srn 4 ⟨58, [sp 1 1, e51_3, e51_1 g, e51_4 g, sI 38 (0 : Int)], [e51_0 g]⟩ (by kernel_rfl) rfl ?_
    refine withJoin (σ := Unit) (fun s => (⟨58, [], []⟩ : St)) (fun s => VC51_k1 K) (fun s h => ?_) (fun rest1 => ?_)
    ·have h : VC51_k1 K := h
     unfold VC51_k1 at h
     refine thenQ_n ?_
     refine srn 1 ⟨58, [sI 2 (0 : Int)], []⟩ (by kernel_rfl) rfl ?_
     refine aw_ret ?_
     exact retQ_r (ob := Ts 1 True) _ (by kernel_rfl) (tsI 1 trivial) h
    ·refine aw_block ?_
     refine aw_loop (σ := Int) (fun s => (⟨58, [sp 1 1, e51_3, e51_1 g, e51_4 g, sI 38 s], [e51_0 g]⟩ : St)) (fun s X => VC51_l1 g K s X) (s0 := (0 : Int)) (fun v38 X1 h => ?_) h
     have h : VC51_l1 g K v38 X1 := h
     unfold VC51_l1 at h
     refine srn 1 ⟨58, [sp 1 1, e51_3, e51_1 g, e51_4 g, sI 38 v38, sB 39 (decide (v38 < (g.2.2.2.length : Int)))], [e51_0 g]⟩ (by kernel_rfl) rfl ?_
     refine aw_seq ?_
     refine aw_cond (b := (decide (v38 < (g.2.2.2.length : Int)))) (by kernel_rfl) (fun hb => ?_) (fun hb => ?_)
     ·have h := h.1 hb
      refine aw_skip ?_
      refine thenQ_n ?_
      refine aw_seq ?_
      refine aw_block ?_
      refine sr ?_
      obtain ⟨o1, h⟩ := h
      refine rq 4 (ob := (inIdx v38 g.2.2.2.length ∧ Ts 3 True)) (st' := (⟨58, [sp 1 1, e51_3, sp 5 5, e51_1 g, e51_4 g, sI 38 v38], [e51_0 g, e51_2 g v38]⟩ : St)) (by kernel_rfl) (⟨o1, tsI 3 trivial⟩) ?_
      refine nsr ?_
      obtain ⟨o1, h⟩ := h
      refine rq 6 (ob := (Ts 5 (InR (g.2.1 - (1 : Int)) ∧ True))) (st' := (⟨58, [sp 1 1, e51_3, sp 5 5, e51_1 g, e51_4 g, sI 38 v38, s1 42 (.fn 79 []), sI 44 ((g.2.2.2.getD (v38).toNat ((0 : Int), ([] : LI))).1), sI 47 (g.2.1 - (1 : Int))], [e51_0 g, e51_2 g v38]⟩ : St)) (by kernel_rfl) (tsI 5 ⟨o1, trivial⟩) ?_
      refine lcq (d := 48) [.d tI, .d tI, .d tI] (fun ret48v => (⟨58, [sp 1 1, e51_3, sp 5 5, e51_1 g, e51_4 g, sI 38 v38, sB 48 ret48v], [e51_0 g, e51_2 g v38]⟩ : St)) (by kernel_rfl) Try.call79 (fun _ => by kernel_rfl) (link79 ((g.2.2.2.getD (v38).toNat ((0 : Int), ([] : LI))).1) (0 : Int) (g.2.1 - (1 : Int)) _ h) (fun ret48v h => ?_)
      refine rq 5 (ob := (Ts 2 (Ti 3 ((!ret48v) = false → True) True))) (st' := (⟨58, [sp 1 1, e51_3, e51_1 g, e51_4 g, sI 38 v38, sB 50 (!ret48v), (51, [(50, false)], .v (.agg [.pI g.1, .pI g.2.1, .pI g.2.2.1, .p (.sl tR) g.2.2.2])), (53, [(50, false)], .v (.c (.pS ((g.2.2.2.getD (v38).toNat ((0 : Int), ([] : LI))).2))))], [e51_0 g]⟩ : St)) (by kernel_rfl) (tsI 2 (tiI 3 (fun _ => trivial) trivial)) ?_
      refine awl_callk (p := [(50, false)]) (l := [toV1 tG g, toV1 (.sl tI) ((g.2.2.2.getD (v38).toNat ((0 : Int), ([] : LI))).2)]) (cl := []) false [.d tG, .d (.sl tI)] [1, 3, 36, 37, 38, 50, 54] [1] (fun (ret54v : Bool) => ((((!ret48v) || (!ret54v)) = true → K (2 : Int)) ∧ (((!ret48v) || (!ret54v)) = false → (InR (v38 + (1 : Int)) ∧ X1 (v38 + (1 : Int)))))) (fun ret54v => [toV1 .bool ret54v]) (fun ret54v => (⟨58, [sp 1 1, e51_3, e51_1 g, e51_4 g, sI 38 v38, sB 50 (!ret48v), (54, [(50, false)], .v (.c (.pB ret54v)))], [e51_0 g]⟩ : St)) (by kernel_rfl) rfl (by kernel_rfl) rfl (by kernel_rfl) Try.call81 (by kernel_rfl) (fun ret54v => by kernel_rfl) (fun e => by cases e) (fun hg => link81 g ((g.2.2.2.getD (v38).toNat ((0 : Int), ([] : LI))).2) _ (by have := gcall_T h (show (!(!ret48v)) = true from hg); exact this)) (fun hg => ⟨false, by have := gcall_F h (show (!(!ret48v)) = false from hg); exact this⟩) (fun ret54v h => ?_)
      refine rq 2 (ob := (((!ret48v) = false → True) ∧ Ts 1 True)) (st' := (⟨58, [sp 1 1, e51_3, e51_1 g, e51_4 g, sI 38 v38, sB 56 ((!ret48v) || (!ret54v))], [e51_0 g]⟩ : St)) (by kernel_rfl) (⟨(fun _ => trivial), tsI 1 trivial⟩) ?_
      refine nn ?_
      refine aw_cond (b := ((!ret48v) || (!ret54v))) (by kernel_rfl) (fun hb => ?_) (fun hb => ?_)
      ·have h := h.1 hb
       refine srn 1 ⟨58, [sI 2 (2 : Int)], []⟩ (by kernel_rfl) rfl ?_
       refine aw_ret ?_
       refine blockQ_r ?_
       refine thenQ_r ?_
       refine thenQ_r ?_
       refine blockQ_r ?_
       refine thenQ_r ?_
       exact retQ_r (ob := Ts 1 True) _ (by kernel_rfl) (tsI 1 trivial) h
      ·have h := h.2 hb
       refine aw_skip ?_
       refine blockQ_n ?_
       refine thenQ_n ?_
       refine aw_region ?_
       obtain ⟨o1, h⟩ := h
       refine rq 2 (ob := (InR (v38 + (1 : Int)) ∧ Ts 1 True)) (st' := (⟨58, [sp 1 1, e51_3, e51_1 g, e51_4 g, sI 38 (v38 + (1 : Int))], [e51_0 g]⟩ : St)) (by kernel_rfl) (⟨o1, tsI 1 trivial⟩) ?_
       refine awl_nil ?_
       exact thenQ_n ⟨(v38 + (1 : Int)), rfl, h⟩
     ·have h := h.2 hb
      refine cpr (st' := (⟨58, [], []⟩ : St)) (by kernel_rfl) ?_
      refine aw_exit ?_
      refine thenQ_x ?_
      refine thenQ_x ?_
      refine blockQ_hit ?_
      exact rest1 () h
-- coppicer/machine.within
def VC106 (n : Int) (low : Int) (high : Int) (K : Bool → Prop) : Prop :=
  K ((decide (low ≤ n)) && (decide (n ≤ high)))
set_option maxHeartbeats 4000000 in
theorem link106 (n : Int) (low : Int) (high : Int) (K : Bool → Prop) (h : VC106 n low high K) : ACalls Try.prog 106 [toV1 tI n, toV1 tI low, toV1 tI high] (fun res => ∃ y, res = (fun y => [toV1 .bool y]) y ∧ K y) := by
 refine acalls_of_aw [.bool] [.t 6] Try.func106 rfl rfl rfl ?_
 unfold VC106 at h
 refine sr ?_
 refine rqT 1 ⟨15, [sI 0 n, sI 1 low, sI 2 high], []⟩ (by kernel_rfl) ?_
 refine nsr ?_
 refine rq 9 (ob := (Ts 4 (Ti 3 ((decide (low ≤ n)) = true → True) (Ts 2 True)))) (st' := (⟨15, [sB 6 ((decide (low ≤ n)) && (decide (n ≤ high)))], []⟩ : St)) (by kernel_rfl) (tsI 4 (tiI 3 (fun _ => trivial) (tsI 2 trivial))) ?_
 refine nn ?_
 refine aw_ret ?_
 exact retQ_r (ob := Ts 1 True) _ (by kernel_rfl) (tsI 1 trivial) h
-- coppicer/machine.Word$1
def VC105 (sv : Int) (a1 : Int) (K : Bool → Prop) : Prop :=
  (InR (a1 - (1 : Int)) ∧ VC106 sv (0 : Int) (a1 - (1 : Int)) (fun (ret7v : Bool) => K (!ret7v)))
set_option maxHeartbeats 4000000 in
theorem link105 (sv : Int) (a1 : Int) (K : Bool → Prop) (h : VC105 sv a1 K) : ACalls Try.prog 105 [toV1 tI sv, .c (.ad tI a1)] (fun res => ∃ y, res = (fun y => [toV1 .bool y]) y ∧ K y) := by
 refine acalls_of_aw [.bool] [.t 3] Try.func105 rfl rfl rfl ?_
 unfold VC105 at h
 refine sr ?_
 refine rqT 1 ⟨9, [sI 0 sv, s1 1 (.ad tI a1)], []⟩ (by kernel_rfl) ?_
 refine nsr ?_
 obtain ⟨o1, h⟩ := h
 refine rq 3 (ob := (Ts 2 (InR (a1 - (1 : Int)) ∧ True))) (st' := (⟨9, [sI 4 sv, sI 6 (a1 - (1 : Int))], []⟩ : St)) (by kernel_rfl) (tsI 2 ⟨o1, trivial⟩) ?_
 refine lcq (d := 7) [.d tI, .d tI, .d tI] (fun ret7v => (⟨9, [sB 7 ret7v], []⟩ : St)) (by kernel_rfl) Try.call106 (fun _ => by kernel_rfl) (link106 sv (0 : Int) (a1 - (1 : Int)) _ h) (fun ret7v h => ?_)
 refine rqT 2 ⟨9, [sB 3 (!ret7v)], []⟩ (by kernel_rfl) ?_
 refine nn ?_
 refine aw_ret ?_
 exact retQ_r (ob := Ts 1 True) _ (by kernel_rfl) (tsI 1 trivial) h
-- coppicer/machine.Word
def VC75 (k : Int) (w : LI) (K : Int → Prop) : Prop :=
  (((decide ((12 : Int) < (w.length : Int))) = true → K (1 : Int)) ∧ ((decide ((12 : Int) < (w.length : Int))) = false → VC59 w (fun (x : Int) (K : Bool → Prop) => VC105 x k K) (fun (ret10v : Bool) => ((ret10v = true → K (2 : Int)) ∧ (ret10v = false → K (0 : Int))))))
set_option maxHeartbeats 4000000 in
theorem link75 (k : Int) (w : LI) (K : Int → Prop) (h : VC75 k w K) : ACalls Try.prog 75 [toV1 tI k, toV1 (.sl tI) w] (fun res => ∃ y, res = (fun y => [toV1 tI y]) y ∧ K y) := by
 refine acalls_of_aw [tI] [.t 4] Try.func75 rfl rfl rfl ?_
 unfold VC75 at h
 refine srn 2 ⟨11, [s1 1 (.pS w), sp 2 2], [hB 2 [.pI k]]⟩ (by kernel_rfl) rfl ?_
 refine aw_seq ?_
 refine srn 3 ⟨11, [s1 1 (.pS w), sp 2 2, sB 7 (decide ((12 : Int) < (w.length : Int)))], [hB 2 [.pI k]]⟩ (by kernel_rfl) rfl ?_
 refine aw_cond (b := (decide ((12 : Int) < (w.length : Int)))) (by kernel_rfl) (fun hb => ?_) (fun hb => ?_)
 ·have h := h.1 hb
  refine srn 1 ⟨11, [sI 4 (1 : Int)], []⟩ (by kernel_rfl) rfl ?_
  refine aw_ret ?_
  refine thenQ_r ?_
  exact retQ_r (ob := Ts 1 True) _ (by kernel_rfl) (tsI 1 trivial) h
 ·have h := h.2 hb
  refine aw_skip ?_
  refine thenQ_n ?_
  refine aw_seq ?_
  refine sr ?_
  refine rqT 1 ⟨11, [sp 2 2, s1 8 (.pS w)], [hB 2 [.pI k]]⟩ (by kernel_rfl) ?_
  refine awl_conv [.freezeB 2 tI] (st' := (⟨11, [s1 2 (.ad tI k), s1 8 (.pS w)], []⟩ : St)) (by kernel_rfl) ?_
  refine rqT 1 ⟨11, [s1 8 (.pS w), s1 9 (.fn 105 [(⟨tI, k⟩ : Dat)])], []⟩ (by kernel_rfl) ?_
  refine lcq (d := 10) [.d (.sl tI), .fn] (fun ret10v => (⟨11, [sB 10 ret10v], []⟩ : St)) (by kernel_rfl) Try.call59 (fun _ => by kernel_rfl) (link59 w 105 [(⟨tI, k⟩ : Dat)] (fun (x : Int) (K : Bool → Prop) => VC105 x k K) ⟨Try.call105, fun x K h => link105 x k K h⟩ _ h) (fun ret10v h => ?_)
  refine nn ?_
  refine aw_cond (b := ret10v) (by kernel_rfl) (fun hb => ?_) (fun hb => ?_)
  ·have h := h.1 hb
   refine srn 1 ⟨11, [sI 4 (2 : Int)], []⟩ (by kernel_rfl) rfl ?_
   refine aw_ret ?_
   refine thenQ_r ?_
   exact retQ_r (ob := Ts 1 True) _ (by kernel_rfl) (tsI 1 trivial) h
  ·have h := h.2 hb
   refine aw_skip ?_
   refine thenQ_n ?_
   refine srn 1 ⟨11, [sI 4 (0 : Int)], []⟩ (by kernel_rfl) rfl ?_
   refine aw_ret ?_
   exact retQ_r (ob := Ts 1 True) _ (by kernel_rfl) (tsI 1 trivial) h
abbrev e44_0 (g : TG) : Nat × Path × Con := hB 2 [.pI g.1, .pI g.2.1, .pI g.2.2.1, .p (.sl tR) g.2.2.2]
-- coppicer/table.Check
def VC44 (g : TG) (w : LI) (K : Int → Prop) : Prop :=
  VC51 g (fun (ret7v : Int) => (((!decide (ret7v = (0 : Int))) = true → K ret7v) ∧ ((!decide (ret7v = (0 : Int))) = false → VC75 g.1 w (fun (ret14v : Int) => K ret14v))))
set_option maxHeartbeats 4000000 in
theorem link44 (g : TG) (w : LI) (K : Int → Prop) (h : VC44 g w K) : ACalls Try.prog 44 [toV1 tG g, toV1 (.sl tI) w] (fun res => ∃ y, res = (fun y => [toV1 tI y]) y ∧ K y) := by
 refine acalls_of_aw [tI] [.t 4] Try.func44 rfl rfl rfl ?_
 unfold VC44 at h
 refine srn 2 ⟨15, [s1 1 (.pS w), sp 2 2], [e44_0 g]⟩ (by kernel_rfl) rfl ?_
 refine aw_seq ?_
 refine sr ?_
 refine rqT 1 ⟨15, [s1 1 (.pS w), sp 2 2, sA 6 [.pI g.1, .pI g.2.1, .pI g.2.2.1, .p (.sl tR) g.2.2.2]], [e44_0 g]⟩ (by kernel_rfl) ?_
 refine lcq (d := 7) [.d tG] (fun ret7v => (⟨15, [s1 1 (.pS w), sp 2 2, sI 7 ret7v], [e44_0 g]⟩ : St)) (by kernel_rfl) Try.call51 (fun _ => by kernel_rfl) (link51 g _ h) (fun ret7v h => ?_)
 refine rqT 1 ⟨15, [s1 1 (.pS w), sp 2 2, sI 5 ret7v], [e44_0 g]⟩ (by kernel_rfl) ?_
 refine nsr ?_
 refine rqT 2 ⟨15, [s1 1 (.pS w), sp 2 2, sI 5 ret7v, sB 9 (!decide (ret7v = (0 : Int)))], [e44_0 g]⟩ (by kernel_rfl) ?_
 refine nn ?_
 refine aw_cond (b := (!decide (ret7v = (0 : Int)))) (by kernel_rfl) (fun hb => ?_) (fun hb => ?_)
 ·have h := h.1 hb
  refine srn 2 ⟨15, [sI 4 ret7v], []⟩ (by kernel_rfl) rfl ?_
  refine aw_ret ?_
  refine thenQ_r ?_
  exact retQ_r (ob := Ts 1 True) _ (by kernel_rfl) (tsI 1 trivial) h
 ·have h := h.2 hb
  refine aw_skip ?_
  refine thenQ_n ?_
  refine sr ?_
  refine rqT 3 ⟨15, [sI 12 g.1, s1 13 (.pS w)], []⟩ (by kernel_rfl) ?_
  refine lcq (d := 14) [.d tI, .d (.sl tI)] (fun ret14v => (⟨15, [sI 14 ret14v], []⟩ : St)) (by kernel_rfl) Try.call75 (fun _ => by kernel_rfl) (link75 g.1 w _ h) (fun ret14v h => ?_)
  refine rqT 1 ⟨15, [sI 4 ret14v], []⟩ (by kernel_rfl) ?_
  refine nn ?_
  refine aw_ret ?_
  exact retQ_r (ob := Ts 1 True) _ (by kernel_rfl) (tsI 1 trivial) h
-- cmp.isNaN[int]
def VC95 (x : Int) (K : Bool → Prop) : Prop :=
  K (!decide (x = x))
set_option maxHeartbeats 4000000 in
theorem link95 (x : Int) (K : Bool → Prop) (h : VC95 x K) : ACalls Try.prog 95 [toV1 tI x] (fun res => ∃ y, res = (fun y => [toV1 .bool y]) y ∧ K y) := by
 refine acalls_of_aw [.bool] [.t 2] Try.func95 rfl rfl rfl ?_
 unfold VC95 at h
 refine sr ?_
 refine rqT 1 ⟨6, [sI 0 x], []⟩ (by kernel_rfl) ?_
 refine nsr ?_
 refine rqT 4 ⟨6, [sB 2 (!decide (x = x))], []⟩ (by kernel_rfl) ?_
 refine nn ?_
 refine aw_ret ?_
 exact retQ_r (ob := Ts 1 True) _ (by kernel_rfl) (tsI 1 trivial) h
-- cmp.Compare[int]
def VC66 (x : Int) (yv : Int) (K : Int → Prop) : Prop :=
  VC95 x (fun (ret8v : Bool) => VC95 yv (fun (ret10v : Bool) => ((ret8v = true → ((ret10v = true → K (0 : Int)) ∧ (ret10v = false → K (-1 : Int)))) ∧ (ret8v = false → ((ret10v = true → K (1 : Int)) ∧ (ret10v = false → (((decide (x < yv)) = true → K (-1 : Int)) ∧ ((decide (x < yv)) = false → (((decide (yv < x)) = true → K (1 : Int)) ∧ ((decide (yv < x)) = false → K (0 : Int)))))))))))
set_option maxHeartbeats 4000000 in
theorem link66 (x : Int) (yv : Int) (K : Int → Prop) (h : VC66 x yv K) : ACalls Try.prog 66 [toV1 tI x, toV1 tI yv] (fun res => ∃ y, res = (fun y => [toV1 tI y]) y ∧ K y) := by
 refine acalls_of_aw [tI] [.t 4] Try.func66 rfl rfl rfl ?_
 unfold VC66 at h
 refine sr ?_
 refine rqT 1 ⟨20, [sI 0 x, sI 1 yv], []⟩ (by kernel_rfl) ?_
 refine nsr ?_
 refine rqT 1 ⟨20, [sI 0 x, sI 1 yv, sI 7 x], []⟩ (by kernel_rfl) ?_
 refine lcq (d := 8) [.d tI] (fun ret8v => (⟨20, [sI 0 x, sI 1 yv, sB 8 ret8v], []⟩ : St)) (by kernel_rfl) Try.call95 (fun _ => by kernel_rfl) (link95 x _ h) (fun ret8v h => ?_)
 refine rqT 1 ⟨20, [sI 0 x, sI 1 yv, sB 5 ret8v], []⟩ (by kernel_rfl) ?_
 refine nsr ?_
 refine rqT 1 ⟨20, [sI 0 x, sI 1 yv, sB 5 ret8v, sI 9 yv], []⟩ (by kernel_rfl) ?_
 refine lcq (d := 10) [.d tI] (fun ret10v => (⟨20, [sI 0 x, sI 1 yv, sB 5 ret8v, sB 10 ret10v], []⟩ : St)) (by kernel_rfl) Try.call95 (fun _ => by kernel_rfl) (link95 yv _ h) (fun ret10v h => ?_)
 refine rqT 1 ⟨20, [sI 0 x, sI 1 yv, sB 5 ret8v, sB 6 ret10v], []⟩ (by kernel_rfl) ?_
 refine nn ?_
 refine aw_seq ?_
 refine srn 1 ⟨20, [sI 0 x, sI 1 yv, sB 6 ret10v, sB 11 ret8v], []⟩ (by kernel_rfl) rfl ?_
 refine aw_cond (b := ret8v) (by kernel_rfl) (fun hb => ?_) (fun hb => ?_)
 ·have h := h.1 hb
  refine aw_seq ?_
  refine srn 1 ⟨20, [sB 12 ret10v], []⟩ (by kernel_rfl) rfl ?_
  refine aw_cond (b := ret10v) (by kernel_rfl) (fun hb => ?_) (fun hb => ?_)
  ·have h := h.1 hb
   refine srn 1 ⟨20, [sI 4 (0 : Int)], []⟩ (by kernel_rfl) rfl ?_
   refine aw_ret ?_
   refine thenQ_r ?_
   refine thenQ_r ?_
   exact retQ_r (ob := Ts 1 True) _ (by kernel_rfl) (tsI 1 trivial) h
  ·have h := h.2 hb
   refine aw_skip ?_
   refine thenQ_n ?_
   refine srn 1 ⟨20, [sI 4 (-1 : Int)], []⟩ (by kernel_rfl) rfl ?_
   refine aw_ret ?_
   refine thenQ_r ?_
   exact retQ_r (ob := Ts 1 True) _ (by kernel_rfl) (tsI 1 trivial) h
 ·have h := h.2 hb
  refine aw_skip ?_
  refine thenQ_n ?_
  refine aw_seq ?_
  refine srn 1 ⟨20, [sI 0 x, sI 1 yv, sB 13 ret10v], []⟩ (by kernel_rfl) rfl ?_
  refine aw_cond (b := ret10v) (by kernel_rfl) (fun hb => ?_) (fun hb => ?_)
  ·have h := h.1 hb
   refine srn 1 ⟨20, [sI 4 (1 : Int)], []⟩ (by kernel_rfl) rfl ?_
   refine aw_ret ?_
   refine thenQ_r ?_
   exact retQ_r (ob := Ts 1 True) _ (by kernel_rfl) (tsI 1 trivial) h
  ·have h := h.2 hb
   refine aw_skip ?_
   refine thenQ_n ?_
   refine aw_seq ?_
   refine srn 3 ⟨20, [sI 0 x, sI 1 yv, sB 16 (decide (x < yv))], []⟩ (by kernel_rfl) rfl ?_
   refine aw_cond (b := (decide (x < yv))) (by kernel_rfl) (fun hb => ?_) (fun hb => ?_)
   ·have h := h.1 hb
    refine srn 1 ⟨20, [sI 4 (-1 : Int)], []⟩ (by kernel_rfl) rfl ?_
    refine aw_ret ?_
    refine thenQ_r ?_
    exact retQ_r (ob := Ts 1 True) _ (by kernel_rfl) (tsI 1 trivial) h
   ·have h := h.2 hb
    refine aw_skip ?_
    refine thenQ_n ?_
    refine aw_seq ?_
    refine srn 3 ⟨20, [sB 19 (decide (yv < x))], []⟩ (by kernel_rfl) rfl ?_
    refine aw_cond (b := (decide (yv < x))) (by kernel_rfl) (fun hb => ?_) (fun hb => ?_)
    ·have h := h.1 hb
     refine srn 1 ⟨20, [sI 4 (1 : Int)], []⟩ (by kernel_rfl) rfl ?_
     refine aw_ret ?_
     refine thenQ_r ?_
     exact retQ_r (ob := Ts 1 True) _ (by kernel_rfl) (tsI 1 trivial) h
    ·have h := h.2 hb
     refine aw_skip ?_
     refine thenQ_n ?_
     refine srn 1 ⟨20, [sI 4 (0 : Int)], []⟩ (by kernel_rfl) rfl ?_
     refine aw_ret ?_
     exact retQ_r (ob := Ts 1 True) _ (by kernel_rfl) (tsI 1 trivial) h
abbrev e65_0 (vals : LI) : Nat × Path × AV := sI 7 (vals.length : Int)
abbrev e65_1 : Nat × Path × AV := sI 3 (0 : Int)
-- cmp.Or[int]
def VC65_k1 (K : Int → Prop) : Prop :=
  K (0 : Int)
def VC65_l1 (vals : LI) (K : Int → Prop) (v8 : Int) (X1 : Int → Prop) : Prop :=
  (((decide (v8 < (vals.length : Int))) = true → (inIdx v8 vals.length ∧ (((!decide ((vals.getD (v8).toNat (0 : Int)) = (0 : Int))) = true → K (vals.getD (v8).toNat (0 : Int))) ∧ ((!decide ((vals.getD (v8).toNat (0 : Int)) = (0 : Int))) = false → (InR (v8 + (1 : Int)) ∧ X1 (v8 + (1 : Int))))))) ∧ ((decide (v8 < (vals.length : Int))) = false → VC65_k1 K))
def VC65 (vals : LI) (K : Int → Prop) : Prop :=
  Loop (σ := Int) (fun s X => VC65_l1 vals K s X) (0 : Int)
set_option maxHeartbeats 4000000 in
theorem link65 (vals : LI) (K : Int → Prop) (h : VC65 vals K) : ACalls Try.prog 65 [toV1 (.sl tI) vals] (fun res => ∃ y, res = (fun y => [toV1 tI y]) y ∧ K y) := by
 refine acalls_of_aw [tI] [.t 2] Try.func65 rfl rfl rfl ?_
 unfold VC65 at h
 refine sr ?_
 refine rqT 1 ⟨18, [s1 0 (.pS vals)], []⟩ (by kernel_rfl) ?_
 refine nsr ?_
 refine rqT 1 ⟨18, [s1 0 (.pS vals), e65_1], []⟩ (by kernel_rfl) ?_
 refine nn ?_
 refine aw_seq ?_
 refine srn 3 ⟨18, [e65_1, s1 6 (.pS vals), e65_0 vals, sI 8 (0 : Int)], []⟩ (by kernel_rfl) rfl ?_
 refine withJoin (σ := Unit) (fun s => (⟨18, [e65_1], []⟩ : St)) (fun s => VC65_k1 K) (fun s h => ?_) (fun rest1 => ?_)
 ·have h : VC65_k1 K := h
  unfold VC65_k1 at h
  refine thenQ_n ?_
  refine srn 2 ⟨18, [sI 2 (0 : Int)], []⟩ (by kernel_rfl) rfl ?_
  refine aw_ret ?_
  exact retQ_r (ob := Ts 1 True) _ (by kernel_rfl) (tsI 1 trivial) h
 ·refine aw_block ?_
  refine aw_loop (σ := Int) (fun s => (⟨18, [e65_1, s1 6 (.pS vals), e65_0 vals, sI 8 s], []⟩ : St)) (fun s X => VC65_l1 vals K s X) (s0 := (0 : Int)) (fun v8 X1 h => ?_) h
  have h : VC65_l1 vals K v8 X1 := h
  unfold VC65_l1 at h
  refine srn 1 ⟨18, [e65_1, s1 6 (.pS vals), e65_0 vals, sI 8 v8, sB 9 (decide (v8 < (vals.length : Int)))], []⟩ (by kernel_rfl) rfl ?_
  refine aw_seq ?_
  refine aw_cond (b := (decide (v8 < (vals.length : Int)))) (by kernel_rfl) (fun hb => ?_) (fun hb => ?_)
  ·have h := h.1 hb
   refine aw_skip ?_
   refine thenQ_n ?_
   refine aw_seq ?_
   refine aw_block ?_
   refine sr ?_
   obtain ⟨o1, h⟩ := h
   refine rq 3 (ob := (inIdx v8 vals.length ∧ Ts 2 True)) (st' := (⟨18, [e65_1, sI 5 (vals.getD (v8).toNat (0 : Int)), s1 6 (.pS vals), e65_0 vals, sI 8 v8], []⟩ : St)) (by kernel_rfl) (⟨o1, tsI 2 trivial⟩) ?_
   refine nsr ?_
   refine rqT 3 ⟨18, [e65_1, sI 5 (vals.getD (v8).toNat (0 : Int)), s1 6 (.pS vals), e65_0 vals, sI 8 v8, sB 14 (!decide ((vals.getD (v8).toNat (0 : Int)) = (0 : Int)))], []⟩ (by kernel_rfl) ?_
   refine nn ?_
   refine aw_cond (b := (!decide ((vals.getD (v8).toNat (0 : Int)) = (0 : Int)))) (by kernel_rfl) (fun hb => ?_) (fun hb => ?_)
   ·have h := h.1 hb
    refine srn 2 ⟨18, [sI 2 (vals.getD (v8).toNat (0 : Int))], []⟩ (by kernel_rfl) rfl ?_
    refine aw_ret ?_
    refine blockQ_r ?_
    refine thenQ_r ?_
    refine thenQ_r ?_
    refine blockQ_r ?_
    refine thenQ_r ?_
    exact retQ_r (ob := Ts 1 True) _ (by kernel_rfl) (tsI 1 trivial) h
   ·have h := h.2 hb
    refine aw_skip ?_
    refine blockQ_n ?_
    refine thenQ_n ?_
    refine aw_region ?_
    obtain ⟨o1, h⟩ := h
    refine rq 2 (ob := (InR (v8 + (1 : Int)) ∧ Ts 1 True)) (st' := (⟨18, [e65_1, s1 6 (.pS vals), e65_0 vals, sI 8 (v8 + (1 : Int))], []⟩ : St)) (by kernel_rfl) (⟨o1, tsI 1 trivial⟩) ?_
    refine awl_nil ?_
    exact thenQ_n ⟨(v8 + (1 : Int)), rfl, h⟩
  ·have h := h.2 hb
   refine cpr (st' := (⟨18, [e65_1], []⟩ : St)) (by kernel_rfl) ?_
   refine aw_exit ?_
   refine thenQ_x ?_
   refine thenQ_x ?_
   refine blockQ_hit ?_
   exact rest1 () h
-- coppicer/items.Sets$1
def VC64 (a : (Int × (Int × Int))) (b : (Int × (Int × Int))) (K : Int → Prop) : Prop :=
  VC66 a.1 b.1 (fun (ret9v : Int) => VC66 a.2.1 b.2.1 (fun (ret14v : Int) => VC66 a.2.2 b.2.2 (fun (ret19v : Int) => VC65 [ret9v, ret14v, ret19v] (fun (ret21v : Int) => K ret21v))))
set_option maxHeartbeats 4000000 in
theorem link64 (a : (Int × (Int × Int))) (b : (Int × (Int × Int))) (K : Int → Prop) (h : VC64 a b K) : ACalls Try.prog 64 [toV1 t3 a, toV1 t3 b] (fun res => ∃ y, res = (fun y => [toV1 tI y]) y ∧ K y) := by
 refine acalls_of_aw [tI] [.t 4] Try.func64 rfl rfl rfl ?_
 unfold VC64 at h
 refine srn 3 ⟨22, [sp 2 2, sp 3 3], [hB 2 [.pI a.1, .pI a.2.1, .pI a.2.2], hB 3 [.pI b.1, .pI b.2.1, .pI b.2.2]]⟩ (by kernel_rfl) rfl ?_
 refine aw_seq ?_
 refine awd_begin [] (by kernel_rfl) ?_
 refine drq (by kernel_rfl) [0, 1, 2, 3, 5, 6, 7, 8, 10, 11, 12, 13] (ob := (Ts 12 True)) (done' := [13, 12, 11, 10, 8, 7, 6, 5, 3, 2, 1, 0]) (st' := (⟨22, [sI 6 a.1, sI 8 b.1, sI 11 a.2.1, sI 13 b.2.1, sI 16 a.2.2, sI 18 b.2.2], []⟩ : St)) (by kernel_rfl) (tsI 12 trivial) ?_
 refine awd_one (i := 4) (by kernel_rfl) ?_
 refine dcq (d := 9) [.d tI, .d tI] (fun ret9v => (⟨22, [sI 9 ret9v, sI 11 a.2.1, sI 13 b.2.1, sI 16 a.2.2, sI 18 b.2.2], []⟩ : St)) rfl (by kernel_rfl) Try.call66 (fun _ => by kernel_rfl) (link66 a.1 b.1 _ h) (fun ret9v h => ?_)
 refine awd_one (i := 9) (by kernel_rfl) ?_
 refine dcq (d := 14) [.d tI, .d tI] (fun ret14v => (⟨22, [sI 9 ret9v, sI 14 ret14v, sI 16 a.2.2, sI 18 b.2.2], []⟩ : St)) rfl (by kernel_rfl) Try.call66 (fun _ => by kernel_rfl) (link66 a.2.1 b.2.1 _ h) (fun ret14v h => ?_)
 refine awd_one (i := 14) (by kernel_rfl) ?_
 refine dcq (d := 19) [.d tI, .d tI] (fun ret19v => (⟨22, [sI 9 ret9v, sI 14 ret14v, sI 19 ret19v], []⟩ : St)) rfl (by kernel_rfl) Try.call66 (fun _ => by kernel_rfl) (link66 a.2.2 b.2.2 _ h) (fun ret19v h => ?_)
 refine awd_one (i := 15) (by kernel_rfl) ?_
 refine dsq (ob := True) (st' := (⟨22, [s1 20 (.own 20)], [hA 20 3 tI [ret9v, ret14v, ret19v]]⟩ : St)) rfl (by kernel_rfl) trivial ?_
 refine awd_one (i := 16) (by kernel_rfl) ?_
 refine adop_callk (p := []) (l := [toV1 (.sl tI) [ret9v, ret14v, ret19v]]) (cl := []) true [.d (.sl tI)] [21] [] (fun (ret21v : Int) => K ret21v) (fun ret21v => [toV1 tI ret21v]) (fun ret21v => (⟨22, [sI 21 ret21v], []⟩ : St)) rfl (by kernel_rfl) rfl (by kernel_rfl) rfl (by kernel_rfl) Try.call65 (by kernel_rfl) (fun ret21v => by kernel_rfl) (fun _ _ => rfl) (fun hg => link65 [ret9v, ret14v, ret19v] _ h) (fun hg => noF hg) (fun ret21v h => ?_)
 refine drq (by kernel_rfl) [17] (ob := (Ts 1 True)) (done' := [17, 16, 15, 14, 9, 4, 13, 12, 11, 10, 8, 7, 6, 5, 3, 2, 1, 0]) (st' := (⟨22, [sI 4 ret21v], []⟩ : St)) (by kernel_rfl) (tsI 1 trivial) ?_
 refine awd_done (by kernel_rfl) ?_
 refine thenQ_n ?_
 refine aw_ret ?_
 exact retQ_r (ob := Ts 1 True) _ (by kernel_rfl) (tsI 1 trivial) h
end Dec
