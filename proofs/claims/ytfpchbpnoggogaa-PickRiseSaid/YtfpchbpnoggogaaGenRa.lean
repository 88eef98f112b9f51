/-
  Printed by dec2.py: of each function its plain demand, and that the demand gives the contract.
-/
import Derived.Test.YtfpchbpnoggogaaProg
import Derived.Test.YtfpchbpnoggogaaDecRh
set_option linter.unusedVariables false
set_option linter.unusedSimpArgs false
set_option maxRecDepth 100000
namespace Dec
open Go Go.RowKit Go.Proofs

-- coppicer/grammar.Check$1
def VC79 (n : Int) (low : Int) (high : Int) (K : Bool → Prop) : Prop :=
  K ((decide (low ≤ n)) && (decide (n ≤ high)))

set_option maxHeartbeats 4000000 in
theorem link79 (n : Int) (low : Int) (high : Int) (K : Bool → Prop) (h : VC79 n low high K) : ACalls Try.prog 79 [toV1 (.int .i64) n, toV1 (.int .i64) low, toV1 (.int .i64) high] (fun res => ∃ y, res = (fun y => [toV1 .bool y]) y ∧ K y) := by
 refine acalls_of_aw [.bool] [.t 6] Try.func79 rfl rfl rfl ?_
 unfold VC79 at h
 refine sr ?_
 refine rq 1 (ob := (Ts 1 True)) (st' := (⟨15, [sI 0 n, sI 1 low, sI 2 high], []⟩ : St)) (by kernel_rfl) (tsI 1 trivial) ?_
 refine nsr ?_
 refine rq 9 (ob := (Ts 4 (Ti 3 ((decide (low ≤ n)) = true → True) (Ts 2 True)))) (st' := (⟨15, [sB 6 ((decide (low ≤ n)) && (decide (n ≤ high)))], []⟩ : St)) (by kernel_rfl) (tsI 4 (tiI 3 (fun _ => trivial) (tsI 2 trivial))) ?_
 refine nn ?_
 refine aw_ret ?_
 exact retQ_r (ob := Ts 1 True) _ (by kernel_rfl) (tsI 1 trivial) h

abbrev e55_0 (sv : (List (Int × LI))) : Nat × Path × AV := s1 0 (.p (.sl (.pr (.int .i64) (.sl (.int .i64)))) sv)
abbrev e55_1 (sv : (List (Int × LI))) : Nat × Path × AV := sI 7 (sv.length : Int)
-- slices.IndexFunc[[]coppicer/api.Rule,coppicer/api.Rule]
def VC55_k1 (K : Int → Prop) : Prop :=
  K (-1 : Int)

def VC55_l1 (sv : (List (Int × LI))) (F1 : (Int × LI) → (Bool → Prop) → Prop) (K : Int → Prop) (v8 : Int) (X1 : Int → Prop) : Prop :=
  (((decide (v8 < (sv.length : Int))) = true → (inIdx v8 sv.length ∧ F1 (sv.getD (v8).toNat ((0 : Int), ([] : LI))) (fun (ret16v : Bool) => ((ret16v = true → K v8) ∧ (ret16v = false → (InR (v8 + (1 : Int)) ∧ X1 (v8 + (1 : Int)))))))) ∧ ((decide (v8 < (sv.length : Int))) = false → VC55_k1 K))

def VC55 (sv : (List (Int × LI))) (F1 : (Int × LI) → (Bool → Prop) → Prop) (K : Int → Prop) : Prop :=
  Loop (σ := Int) (fun s X => VC55_l1 sv F1 K s X) (0 : Int)

set_option maxHeartbeats 4000000 in
theorem link55 (sv : (List (Int × LI))) (fv1 : FuncId) (cv1 : List Dat) (F1 : (Int × LI) → (Bool → Prop) → Prop) (hF1 : FnIs Try.prog fv1 cv1 (fun (x : (Int × LI)) => [toV1 (.pr (.int .i64) (.sl (.int .i64))) x]) (fun (y : Bool) => [toV1 .bool y]) F1) (K : Int → Prop) (h : VC55 sv F1 K) : ACalls Try.prog 55 [toV1 (.sl (.pr (.int .i64) (.sl (.int .i64)))) sv, .c (.fn fv1 cv1)] (fun res => ∃ y, res = (fun y => [toV1 (.int .i64) y]) y ∧ K y) := by
 refine acalls_of_aw [(.int .i64)] [.t 4] Try.func55 rfl rfl rfl ?_
 unfold VC55 at h
 refine sr ?_
 refine rq 1 (ob := (Ts 1 True)) (st' := (⟨19, [e55_0 sv, s1 1 (.fn fv1 cv1)], []⟩ : St)) (by kernel_rfl) (tsI 1 trivial) ?_
 refine nn ?_
 refine aw_seq ?_
 refine sr ?_
 refine rq 3 (ob := (Ts 3 True)) (st' := (⟨19, [e55_0 sv, s1 1 (.fn fv1 cv1), e55_1 sv, sI 8 (0 : Int)], []⟩ : St)) (by kernel_rfl) (tsI 3 trivial) ?_
 refine nn ?_
 refine withJoin (σ := Unit) (fun s => (⟨19, [], []⟩ : St)) (fun s => VC55_k1 K) (fun s h => ?_) (fun rest1 => ?_)
 ·have h : VC55_k1 K := h
  unfold VC55_k1 at h
  refine thenQ_n ?_
  refine sr ?_
  refine rq 1 (ob := (Ts 1 True)) (st' := (⟨19, [sI 4 (-1 : Int)], []⟩ : St)) (by kernel_rfl) (tsI 1 trivial) ?_
  refine nn ?_
  refine aw_ret ?_
  exact retQ_r (ob := Ts 1 True) _ (by kernel_rfl) (tsI 1 trivial) h
 ·refine aw_block ?_
  refine aw_loop (σ := Int) (fun s => (⟨19, [e55_0 sv, s1 1 (.fn fv1 cv1), e55_1 sv, sI 8 s], []⟩ : St)) (fun s X => VC55_l1 sv F1 K s X) (s0 := (0 : Int)) (fun v8 X1 h => ?_) h
  have h : VC55_l1 sv F1 K v8 X1 := h
  unfold VC55_l1 at h
  refine sr ?_
  refine rq 1 (ob := (Ts 1 True)) (st' := (⟨19, [e55_0 sv, s1 1 (.fn fv1 cv1), e55_1 sv, sI 8 v8, sB 9 (decide (v8 < (sv.length : Int)))], []⟩ : St)) (by kernel_rfl) (tsI 1 trivial) ?_
  refine nn ?_
  refine aw_seq ?_
  refine aw_cond (b := (decide (v8 < (sv.length : Int)))) (by kernel_rfl) (fun hb => ?_) (fun hb => ?_)
  ·have h := h.1 hb
   refine aw_skip ?_
   refine thenQ_n ?_
   refine aw_seq ?_
   refine aw_block ?_
   refine sr ?_
   refine rq 2 (ob := (Ts 2 True)) (st' := (⟨19, [e55_0 sv, s1 1 (.fn fv1 cv1), sI 5 v8, e55_1 sv, sI 8 v8], []⟩ : St)) (by kernel_rfl) (tsI 2 trivial) ?_
   refine nsr ?_
   obtain ⟨o1, h⟩ := h
   refine rq 5 (ob := (Ts 3 (inIdx v8 sv.length ∧ Ts 1 True))) (st' := (⟨19, [e55_0 sv, s1 1 (.fn fv1 cv1), sI 5 v8, e55_1 sv, sI 8 v8, s1 11 (.fn fv1 cv1), sA 15 [.pI ((sv.getD (v8).toNat ((0 : Int), ([] : LI))).1), .pS ((sv.getD (v8).toNat ((0 : Int), ([] : LI))).2)]], []⟩ : St)) (by kernel_rfl) (tsI 3 ⟨o1, tsI 1 trivial⟩) ?_
   refine lcq (d := 16) [.d (.pr (.int .i64) (.sl (.int .i64)))] (fun ret16v => (⟨19, [e55_0 sv, s1 1 (.fn fv1 cv1), sI 5 v8, e55_1 sv, sI 8 v8, sB 16 ret16v], []⟩ : St)) (by kernel_rfl) hF1.1 (fun _ => by kernel_rfl) (hF1.2 (sv.getD (v8).toNat ((0 : Int), ([] : LI))) _ h) (fun ret16v h => ?_)
   refine nn ?_
   refine aw_cond (b := ret16v) (by kernel_rfl) (fun hb => ?_) (fun hb => ?_)
   ·have h := h.1 hb
    refine sr ?_
    refine rq 2 (ob := (Ts 2 True)) (st' := (⟨19, [sI 4 v8], []⟩ : St)) (by kernel_rfl) (tsI 2 trivial) ?_
    refine nn ?_
    refine aw_ret ?_
    refine blockQ_r ?_
    refine thenQ_r ?_
    refine thenQ_r ?_
    refine blockQ_r ?_
    refine thenQ_r ?_
    exact retQ_r (ob := Ts 1 True) _ (by kernel_rfl) (tsI 1 trivial) h
   ·have h := h.2 hb
    refine aw_skip ?_
    refine blockQ_n ?_
    refine thenQ_n ?_
    refine aw_region ?_
    obtain ⟨o1, h⟩ := h
    refine rq 2 (ob := (InR (v8 + (1 : Int)) ∧ Ts 1 True)) (st' := (⟨19, [e55_0 sv, s1 1 (.fn fv1 cv1), e55_1 sv, sI 8 (v8 + (1 : Int))], []⟩ : St)) (by kernel_rfl) (⟨o1, tsI 1 trivial⟩) ?_
    refine awl_nil ?_
    exact thenQ_n ⟨(v8 + (1 : Int)), rfl, h⟩
  ·have h := h.2 hb
   refine cpr (st' := (⟨19, [], []⟩ : St)) (by kernel_rfl) ?_
   refine aw_exit ?_
   refine thenQ_x ?_
   refine thenQ_x ?_
   refine blockQ_hit ?_
   exact rest1 () h

-- slices.ContainsFunc[[]coppicer/api.Rule,coppicer/api.Rule]
def VC77 (sv : (List (Int × LI))) (F1 : (Int × LI) → (Bool → Prop) → Prop) (K : Bool → Prop) : Prop :=
  VC55 sv F1 (fun (ret7v : Int) => K (decide ((0 : Int) ≤ ret7v)))

set_option maxHeartbeats 4000000 in
theorem link77 (sv : (List (Int × LI))) (fv1 : FuncId) (cv1 : List Dat) (F1 : (Int × LI) → (Bool → Prop) → Prop) (hF1 : FnIs Try.prog fv1 cv1 (fun (x : (Int × LI)) => [toV1 (.pr (.int .i64) (.sl (.int .i64))) x]) (fun (y : Bool) => [toV1 .bool y]) F1) (K : Bool → Prop) (h : VC77 sv F1 K) : ACalls Try.prog 77 [toV1 (.sl (.pr (.int .i64) (.sl (.int .i64)))) sv, .c (.fn fv1 cv1)] (fun res => ∃ y, res = (fun y => [toV1 .bool y]) y ∧ K y) := by
 refine acalls_of_aw [.bool] [.t 4] Try.func77 rfl rfl rfl ?_
 unfold VC77 at h
 refine sr ?_
 refine rq 1 (ob := (Ts 1 True)) (st' := (⟨9, [s1 0 (.p (.sl (.pr (.int .i64) (.sl (.int .i64)))) sv), s1 1 (.fn fv1 cv1)], []⟩ : St)) (by kernel_rfl) (tsI 1 trivial) ?_
 refine nsr ?_
 refine rq 2 (ob := (Ts 2 True)) (st' := (⟨9, [s1 5 (.p (.sl (.pr (.int .i64) (.sl (.int .i64)))) sv), s1 6 (.fn fv1 cv1)], []⟩ : St)) (by kernel_rfl) (tsI 2 trivial) ?_
 refine lcq (d := 7) [.d (.sl (.pr (.int .i64) (.sl (.int .i64)))), .fn] (fun ret7v => (⟨9, [sI 7 ret7v], []⟩ : St)) (by kernel_rfl) Try.call55 (fun _ => by kernel_rfl) (link55 sv fv1 cv1 F1 hF1 _ h) (fun ret7v h => ?_)
 refine rq 2 (ob := (Ts 2 True)) (st' := (⟨9, [sB 4 (decide ((0 : Int) ≤ ret7v))], []⟩ : St)) (by kernel_rfl) (tsI 2 trivial) ?_
 refine nn ?_
 refine aw_ret ?_
 exact retQ_r (ob := Ts 1 True) _ (by kernel_rfl) (tsI 1 trivial) h

-- coppicer/grammar.Check$2
def VC80 (rv : (Int × LI)) (K : Bool → Prop) : Prop :=
  K (decide ((4 : Int) < (rv.2.length : Int)))

set_option maxHeartbeats 4000000 in
theorem link80 (rv : (Int × LI)) (K : Bool → Prop) (h : VC80 rv K) : ACalls Try.prog 80 [toV1 (.pr (.int .i64) (.sl (.int .i64))) rv] (fun res => ∃ y, res = (fun y => [toV1 .bool y]) y ∧ K y) := by
 refine acalls_of_aw [.bool] [.t 2] Try.func80 rfl rfl rfl ?_
 unfold VC80 at h
 refine sr ?_
 refine rq 2 (ob := (Ts 2 True)) (st' := (⟨7, [sp 1 1], [hB 1 [.pI rv.1, .pS rv.2]]⟩ : St)) (by kernel_rfl) (tsI 2 trivial) ?_
 refine nsr ?_
 refine rq 5 (ob := (Ts 5 True)) (st' := (⟨7, [sB 2 (decide ((4 : Int) < (rv.2.length : Int)))], []⟩ : St)) (by kernel_rfl) (tsI 5 trivial) ?_
 refine nn ?_
 refine aw_ret ?_
 exact retQ_r (ob := Ts 1 True) _ (by kernel_rfl) (tsI 1 trivial) h

-- coppicer/grammar.IsSigns$1
def VC107 (sv : Int) (a1 : (Int × (Int × (Int × (List (Int × LI)))))) (K : Bool → Prop) : Prop :=
  (((decide (sv < (0 : Int))) = false → InR (a1.1 + a1.2.1)) ∧ K ((decide (sv < (0 : Int))) || (decide ((a1.1 + a1.2.1) ≤ sv))))

set_option maxHeartbeats 4000000 in
theorem link107 (sv : Int) (a1 : (Int × (Int × (Int × (List (Int × LI)))))) (K : Bool → Prop) (h : VC107 sv a1 K) : ACalls Try.prog 107 [toV1 (.int .i64) sv, .c (.ad (.pr (.int .i64) (.pr (.int .i64) (.pr (.int .i64) (.sl (.pr (.int .i64) (.sl (.int .i64))))))) a1)] (fun res => ∃ y, res = (fun y => [toV1 .bool y]) y ∧ K y) := by
 refine acalls_of_aw [.bool] [.t 3] Try.func107 rfl rfl rfl ?_
 unfold VC107 at h
 refine sr ?_
 refine rq 1 (ob := (Ts 1 True)) (st' := (⟨15, [sI 0 sv, s1 1 (.ad (.pr (.int .i64) (.pr (.int .i64) (.pr (.int .i64) (.sl (.pr (.int .i64) (.sl (.int .i64))))))) a1)], []⟩ : St)) (by kernel_rfl) (tsI 1 trivial) ?_
 refine nsr ?_
 obtain ⟨o1, h⟩ := h
 refine rq 12 (ob := (Ts 3 (Ti 5 ((decide (sv < (0 : Int))) = false → True) (((decide (sv < (0 : Int))) = false → InR (a1.1 + a1.2.1)) ∧ ((decide (sv < (0 : Int))) = false → True) ∧ Ts 2 True)))) (st' := (⟨15, [sB 3 ((decide (sv < (0 : Int))) || (decide ((a1.1 + a1.2.1) ≤ sv)))], []⟩ : St)) (by kernel_rfl) (tsI 3 (tiI 5 (fun _ => trivial) (⟨o1, ⟨(fun _ => trivial), tsI 2 trivial⟩⟩))) ?_
 refine nn ?_
 refine aw_ret ?_
 exact retQ_r (ob := Ts 1 True) _ (by kernel_rfl) (tsI 1 trivial) h

abbrev e88_0 (sv : LI) : Nat × Path × AV := sI 7 (sv.length : Int)
-- slices.IndexFunc[[]int,int]
def VC88_k1 (K : Int → Prop) : Prop :=
  K (-1 : Int)

def VC88_l1 (sv : LI) (F1 : Int → (Bool → Prop) → Prop) (K : Int → Prop) (v8 : Int) (X1 : Int → Prop) : Prop :=
  (((decide (v8 < (sv.length : Int))) = true → (inIdx v8 sv.length ∧ F1 (sv.getD (v8).toNat (0 : Int)) (fun (ret16v : Bool) => ((ret16v = true → K v8) ∧ (ret16v = false → (InR (v8 + (1 : Int)) ∧ X1 (v8 + (1 : Int)))))))) ∧ ((decide (v8 < (sv.length : Int))) = false → VC88_k1 K))

def VC88 (sv : LI) (F1 : Int → (Bool → Prop) → Prop) (K : Int → Prop) : Prop :=
  Loop (σ := Int) (fun s X => VC88_l1 sv F1 K s X) (0 : Int)

set_option maxHeartbeats 4000000 in
theorem link88 (sv : LI) (fv1 : FuncId) (cv1 : List Dat) (F1 : Int → (Bool → Prop) → Prop) (hF1 : FnIs Try.prog fv1 cv1 (fun (x : Int) => [toV1 (.int .i64) x]) (fun (y : Bool) => [toV1 .bool y]) F1) (K : Int → Prop) (h : VC88 sv F1 K) : ACalls Try.prog 88 [toV1 (.sl (.int .i64)) sv, .c (.fn fv1 cv1)] (fun res => ∃ y, res = (fun y => [toV1 (.int .i64) y]) y ∧ K y) := by
 refine acalls_of_aw [(.int .i64)] [.t 4] Try.func88 rfl rfl rfl ?_
 unfold VC88 at h
 refine sr ?_
 refine rq 1 (ob := (Ts 1 True)) (st' := (⟨19, [s1 0 (.pS sv), s1 1 (.fn fv1 cv1)], []⟩ : St)) (by kernel_rfl) (tsI 1 trivial) ?_
 refine nn ?_
 refine aw_seq ?_
 refine sr ?_
 refine rq 3 (ob := (Ts 3 True)) (st' := (⟨19, [s1 0 (.pS sv), s1 1 (.fn fv1 cv1), e88_0 sv, sI 8 (0 : Int)], []⟩ : St)) (by kernel_rfl) (tsI 3 trivial) ?_
 refine nn ?_
 refine withJoin (σ := Unit) (fun s => (⟨19, [], []⟩ : St)) (fun s => VC88_k1 K) (fun s h => ?_) (fun rest1 => ?_)
 ·have h : VC88_k1 K := h
  unfold VC88_k1 at h
  refine thenQ_n ?_
  refine sr ?_
  refine rq 1 (ob := (Ts 1 True)) (st' := (⟨19, [sI 4 (-1 : Int)], []⟩ : St)) (by kernel_rfl) (tsI 1 trivial) ?_
  refine nn ?_
  refine aw_ret ?_
  exact retQ_r (ob := Ts 1 True) _ (by kernel_rfl) (tsI 1 trivial) h
 ·refine aw_block ?_
  refine aw_loop (σ := Int) (fun s => (⟨19, [s1 0 (.pS sv), s1 1 (.fn fv1 cv1), e88_0 sv, sI 8 s], []⟩ : St)) (fun s X => VC88_l1 sv F1 K s X) (s0 := (0 : Int)) (fun v8 X1 h => ?_) h
  have h : VC88_l1 sv F1 K v8 X1 := h
  unfold VC88_l1 at h
  refine sr ?_
  refine rq 1 (ob := (Ts 1 True)) (st' := (⟨19, [s1 0 (.pS sv), s1 1 (.fn fv1 cv1), e88_0 sv, sI 8 v8, sB 9 (decide (v8 < (sv.length : Int)))], []⟩ : St)) (by kernel_rfl) (tsI 1 trivial) ?_
  refine nn ?_
  refine aw_seq ?_
  refine aw_cond (b := (decide (v8 < (sv.length : Int)))) (by kernel_rfl) (fun hb => ?_) (fun hb => ?_)
  ·have h := h.1 hb
   refine aw_skip ?_
   refine thenQ_n ?_
   refine aw_seq ?_
   refine aw_block ?_
   refine sr ?_
   refine rq 2 (ob := (Ts 2 True)) (st' := (⟨19, [s1 0 (.pS sv), s1 1 (.fn fv1 cv1), sI 5 v8, e88_0 sv, sI 8 v8], []⟩ : St)) (by kernel_rfl) (tsI 2 trivial) ?_
   refine nsr ?_
   obtain ⟨o1, h⟩ := h
   refine rq 5 (ob := (Ts 3 (inIdx v8 sv.length ∧ Ts 1 True))) (st' := (⟨19, [s1 0 (.pS sv), s1 1 (.fn fv1 cv1), sI 5 v8, e88_0 sv, sI 8 v8, s1 11 (.fn fv1 cv1), sI 15 (sv.getD (v8).toNat (0 : Int))], []⟩ : St)) (by kernel_rfl) (tsI 3 ⟨o1, tsI 1 trivial⟩) ?_
   refine lcq (d := 16) [.d (.int .i64)] (fun ret16v => (⟨19, [s1 0 (.pS sv), s1 1 (.fn fv1 cv1), sI 5 v8, e88_0 sv, sI 8 v8, sB 16 ret16v], []⟩ : St)) (by kernel_rfl) hF1.1 (fun _ => by kernel_rfl) (hF1.2 (sv.getD (v8).toNat (0 : Int)) _ h) (fun ret16v h => ?_)
   refine nn ?_
   refine aw_cond (b := ret16v) (by kernel_rfl) (fun hb => ?_) (fun hb => ?_)
   ·have h := h.1 hb
    refine sr ?_
    refine rq 2 (ob := (Ts 2 True)) (st' := (⟨19, [sI 4 v8], []⟩ : St)) (by kernel_rfl) (tsI 2 trivial) ?_
    refine nn ?_
    refine aw_ret ?_
    refine blockQ_r ?_
    refine thenQ_r ?_
    refine thenQ_r ?_
    refine blockQ_r ?_
    refine thenQ_r ?_
    exact retQ_r (ob := Ts 1 True) _ (by kernel_rfl) (tsI 1 trivial) h
   ·have h := h.2 hb
    refine aw_skip ?_
    refine blockQ_n ?_
    refine thenQ_n ?_
    refine aw_region ?_
    obtain ⟨o1, h⟩ := h
    refine rq 2 (ob := (InR (v8 + (1 : Int)) ∧ Ts 1 True)) (st' := (⟨19, [s1 0 (.pS sv), s1 1 (.fn fv1 cv1), e88_0 sv, sI 8 (v8 + (1 : Int))], []⟩ : St)) (by kernel_rfl) (⟨o1, tsI 1 trivial⟩) ?_
    refine awl_nil ?_
    exact thenQ_n ⟨(v8 + (1 : Int)), rfl, h⟩
  ·have h := h.2 hb
   refine cpr (st' := (⟨19, [], []⟩ : St)) (by kernel_rfl) ?_
   refine aw_exit ?_
   refine thenQ_x ?_
   refine thenQ_x ?_
   refine blockQ_hit ?_
   exact rest1 () h

-- slices.ContainsFunc[[]int,int]
def VC59 (sv : LI) (F1 : Int → (Bool → Prop) → Prop) (K : Bool → Prop) : Prop :=
  VC88 sv F1 (fun (ret7v : Int) => K (decide ((0 : Int) ≤ ret7v)))

set_option maxHeartbeats 4000000 in
theorem link59 (sv : LI) (fv1 : FuncId) (cv1 : List Dat) (F1 : Int → (Bool → Prop) → Prop) (hF1 : FnIs Try.prog fv1 cv1 (fun (x : Int) => [toV1 (.int .i64) x]) (fun (y : Bool) => [toV1 .bool y]) F1) (K : Bool → Prop) (h : VC59 sv F1 K) : ACalls Try.prog 59 [toV1 (.sl (.int .i64)) sv, .c (.fn fv1 cv1)] (fun res => ∃ y, res = (fun y => [toV1 .bool y]) y ∧ K y) := by
 refine acalls_of_aw [.bool] [.t 4] Try.func59 rfl rfl rfl ?_
 unfold VC59 at h
 refine sr ?_
 refine rq 1 (ob := (Ts 1 True)) (st' := (⟨9, [s1 0 (.pS sv), s1 1 (.fn fv1 cv1)], []⟩ : St)) (by kernel_rfl) (tsI 1 trivial) ?_
 refine nsr ?_
 refine rq 2 (ob := (Ts 2 True)) (st' := (⟨9, [s1 5 (.pS sv), s1 6 (.fn fv1 cv1)], []⟩ : St)) (by kernel_rfl) (tsI 2 trivial) ?_
 refine lcq (d := 7) [.d (.sl (.int .i64)), .fn] (fun ret7v => (⟨9, [sI 7 ret7v], []⟩ : St)) (by kernel_rfl) Try.call88 (fun _ => by kernel_rfl) (link88 sv fv1 cv1 F1 hF1 _ h) (fun ret7v h => ?_)
 refine rq 2 (ob := (Ts 2 True)) (st' := (⟨9, [sB 4 (decide ((0 : Int) ≤ ret7v))], []⟩ : St)) (by kernel_rfl) (tsI 2 trivial) ?_
 refine nn ?_
 refine aw_ret ?_
 exact retQ_r (ob := Ts 1 True) _ (by kernel_rfl) (tsI 1 trivial) h

-- coppicer/grammar.IsSigns
def VC81 (g : (Int × (Int × (Int × (List (Int × LI)))))) (l : LI) (K : Bool → Prop) : Prop :=
  VC59 l (fun (x : Int) (K : Bool → Prop) => VC107 x g K) (fun (ret7v : Bool) => K (!ret7v))

set_option maxHeartbeats 4000000 in
theorem link81 (g : (Int × (Int × (Int × (List (Int × LI)))))) (l : LI) (K : Bool → Prop) (h : VC81 g l K) : ACalls Try.prog 81 [toV1 (.pr (.int .i64) (.pr (.int .i64) (.pr (.int .i64) (.sl (.pr (.int .i64) (.sl (.int .i64))))))) g, toV1 (.sl (.int .i64)) l] (fun res => ∃ y, res = (fun y => [toV1 .bool y]) y ∧ K y) := by
 refine acalls_of_aw [.bool] [.t 4] Try.func81 rfl rfl rfl ?_
 unfold VC81 at h
 refine sr ?_
 refine rq 2 (ob := (Ts 2 True)) (st' := (⟨9, [s1 1 (.pS l), sp 2 2], [hB 2 [.pI g.1, .pI g.2.1, .pI g.2.2.1, .p (.sl (.pr (.int .i64) (.sl (.int .i64)))) g.2.2.2]]⟩ : St)) (by kernel_rfl) (tsI 2 trivial) ?_
 refine nsr ?_
 refine rq 1 (ob := (Ts 1 True)) (st' := (⟨9, [sp 2 2, s1 5 (.pS l)], [hB 2 [.pI g.1, .pI g.2.1, .pI g.2.2.1, .p (.sl (.pr (.int .i64) (.sl (.int .i64)))) g.2.2.2]]⟩ : St)) (by kernel_rfl) (tsI 1 trivial) ?_
 refine awl_conv [.freezeB 2 (.pr (.int .i64) (.pr (.int .i64) (.pr (.int .i64) (.sl (.pr (.int .i64) (.sl (.int .i64)))))))] (st' := (⟨9, [s1 2 (.ad (.pr (.int .i64) (.pr (.int .i64) (.pr (.int .i64) (.sl (.pr (.int .i64) (.sl (.int .i64))))))) g), s1 5 (.pS l)], []⟩ : St)) (by kernel_rfl) ?_
 refine rq 1 (ob := (Ts 1 True)) (st' := (⟨9, [s1 5 (.pS l), s1 6 (.fn 107 [(⟨(.pr (.int .i64) (.pr (.int .i64) (.pr (.int .i64) (.sl (.pr (.int .i64) (.sl (.int .i64))))))), g⟩ : Dat)])], []⟩ : St)) (by kernel_rfl) (tsI 1 trivial) ?_
 refine lcq (d := 7) [.d (.sl (.int .i64)), .fn] (fun ret7v => (⟨9, [sB 7 ret7v], []⟩ : St)) (by kernel_rfl) Try.call59 (fun _ => by kernel_rfl) (link59 l 107 [(⟨(.pr (.int .i64) (.pr (.int .i64) (.pr (.int .i64) (.sl (.pr (.int .i64) (.sl (.int .i64))))))), g⟩ : Dat)] (fun (x : Int) (K : Bool → Prop) => VC107 x g K) ⟨Try.call107, fun x K h => link107 x g K h⟩ _ h) (fun ret7v h => ?_)
 refine rq 2 (ob := (Ts 2 True)) (st' := (⟨9, [sB 4 (!ret7v)], []⟩ : St)) (by kernel_rfl) (tsI 2 trivial) ?_
 refine nn ?_
 refine aw_ret ?_
 exact retQ_r (ob := Ts 1 True) _ (by kernel_rfl) (tsI 1 trivial) h

abbrev e51_0 (g : (Int × (Int × (Int × (List (Int × LI)))))) : Nat × Path × Con := hB 1 [.pI g.1, .pI g.2.1, .pI g.2.2.1, .p (.sl (.pr (.int .i64) (.sl (.int .i64)))) g.2.2.2]
abbrev e51_1 (g : (Int × (Int × (Int × (List (Int × LI)))))) : Nat × Path × AV := s1 36 (.p (.sl (.pr (.int .i64) (.sl (.int .i64)))) g.2.2.2)
abbrev e51_2 (g : (Int × (Int × (Int × (List (Int × LI)))))) (v38 : Int) : Nat × Path × Con := hB 5 [.pI ((g.2.2.2.getD (v38).toNat ((0 : Int), ([] : LI))).1), .pS ((g.2.2.2.getD (v38).toNat ((0 : Int), ([] : LI))).2)]
abbrev e51_3 : Nat × Path × AV := s1 3 (.fn 79 [])
abbrev e51_4 (g : (Int × (Int × (Int × (List (Int × LI)))))) : Nat × Path × AV := sI 37 (g.2.2.2.length : Int)
-- coppicer/grammar.Check
def VC51_k1 (K : Int → Prop) : Prop :=
  K (0 : Int)

def VC51_l1 (g : (Int × (Int × (Int × (List (Int × LI)))))) (K : Int → Prop) (v38 : Int) (X1 : Int → Prop) : Prop :=
  (((decide (v38 < (g.2.2.2.length : Int))) = true → (inIdx v38 g.2.2.2.length ∧ (InR (g.2.1 - (1 : Int)) ∧ VC79 ((g.2.2.2.getD (v38).toNat ((0 : Int), ([] : LI))).1) (0 : Int) (g.2.1 - (1 : Int)) (fun (ret48v : Bool) => gcall (α := Bool) (!(!ret48v)) (VC81 g ((g.2.2.2.getD (v38).toNat ((0 : Int), ([] : LI))).2)) false (fun (ret54v : Bool) => ((((!ret48v) || (!ret54v)) = true → K (2 : Int)) ∧ (((!ret48v) || (!ret54v)) = false → (InR (v38 + (1 : Int)) ∧ X1 (v38 + (1 : Int)))))))))) ∧ ((decide (v38 < (g.2.2.2.length : Int))) = false → VC51_k1 K))

def VC51 (g : (Int × (Int × (Int × (List (Int × LI)))))) (K : Int → Prop) : Prop :=
  VC79 g.1 (1 : Int) (3 : Int) (fun (ret9v : Bool) => gcall (α := Bool) (!(!ret9v)) (VC79 g.2.1 (1 : Int) (5 : Int)) false (fun (ret15v : Bool) => (((((!ret9v) || (!ret15v)) || (decide ((10 : Int) < (g.2.2.2.length : Int)))) = true → K (1 : Int)) ∧ ((((!ret9v) || (!ret15v)) || (decide ((10 : Int) < (g.2.2.2.length : Int)))) = false → VC77 g.2.2.2 (fun (x : (Int × LI)) (K : Bool → Prop) => VC80 x K) (fun (ret26v : Bool) => ((ret26v = true → K (1 : Int)) ∧ (ret26v = false → (InR (g.2.1 - (1 : Int)) ∧ VC79 g.2.2.1 (0 : Int) (g.2.1 - (1 : Int)) (fun (ret33v : Bool) => (((!ret33v) = true → K (2 : Int)) ∧ ((!ret33v) = false → Loop (σ := Int) (fun s X => VC51_l1 g K s X) (0 : Int))))))))))))

set_option maxHeartbeats 4000000 in
theorem link51 (g : (Int × (Int × (Int × (List (Int × LI)))))) (K : Int → Prop) (h : VC51 g K) : ACalls Try.prog 51 [toV1 (.pr (.int .i64) (.pr (.int .i64) (.pr (.int .i64) (.sl (.pr (.int .i64) (.sl (.int .i64))))))) g] (fun res => ∃ y, res = (fun y => [toV1 (.int .i64) y]) y ∧ K y) := by
 refine acalls_of_aw [(.int .i64)] [.t 2] Try.func51 rfl rfl rfl ?_
 unfold VC51 at h
 refine sr ?_
 refine rq 2 (ob := (Ts 2 True)) (st' := (⟨58, [sp 1 1], [e51_0 g]⟩ : St)) (by kernel_rfl) (tsI 2 trivial) ?_
 refine nsr ?_
 refine rq 1 (ob := (Ts 1 True)) (st' := (⟨58, [sp 1 1, e51_3], [e51_0 g]⟩ : St)) (by kernel_rfl) (tsI 1 trivial) ?_
 refine nn ?_
 refine aw_seq ?_
 refine sr ?_
 refine rq 3 (ob := (Ts 3 True)) (st' := (⟨58, [sp 1 1, e51_3, s1 6 (.fn 79 []), sI 8 g.1], [e51_0 g]⟩ : St)) (by kernel_rfl) (tsI 3 trivial) ?_
 refine lcq (d := 9) [.d (.int .i64), .d (.int .i64), .d (.int .i64)] (fun ret9v => (⟨58, [sp 1 1, e51_3, sB 9 ret9v], [e51_0 g]⟩ : St)) (by kernel_rfl) Try.call79 (fun _ => by kernel_rfl) (link79 g.1 (1 : Int) (3 : Int) _ h) (fun ret9v h => ?_)
 refine rq 5 (ob := (Ts 2 (Ti 3 ((!ret9v) = false → True) True))) (st' := (⟨58, [sp 1 1, e51_3, sB 11 (!ret9v), (12, [(11, false)], .v (.c (.fn 79 []))), (14, [(11, false)], .v (.c (.pI g.2.1)))], [e51_0 g]⟩ : St)) (by kernel_rfl) (tsI 2 (tiI 3 (fun _ => trivial) trivial)) ?_
 refine awl_callk (p := [(11, false)]) (l := [toV1 (.int .i64) g.2.1, toV1 (.int .i64) (1 : Int), toV1 (.int .i64) (5 : Int)]) (cl := []) false [.d (.int .i64), .d (.int .i64), .d (.int .i64)] [1, 3, 11, 15] [1] (fun (ret15v : Bool) => (((((!ret9v) || (!ret15v)) || (decide ((10 : Int) < (g.2.2.2.length : Int)))) = true → K (1 : Int)) ∧ ((((!ret9v) || (!ret15v)) || (decide ((10 : Int) < (g.2.2.2.length : Int)))) = false → VC77 g.2.2.2 (fun (x : (Int × LI)) (K : Bool → Prop) => VC80 x K) (fun (ret26v : Bool) => ((ret26v = true → K (1 : Int)) ∧ (ret26v = false → (InR (g.2.1 - (1 : Int)) ∧ VC79 g.2.2.1 (0 : Int) (g.2.1 - (1 : Int)) (fun (ret33v : Bool) => (((!ret33v) = true → K (2 : Int)) ∧ ((!ret33v) = false → Loop (σ := Int) (fun s X => VC51_l1 g K s X) (0 : Int))))))))))) (fun ret15v => [toV1 .bool ret15v]) (fun ret15v => (⟨58, [sp 1 1, e51_3, sB 11 (!ret9v), (15, [(11, false)], .v (.c (.pB ret15v)))], [e51_0 g]⟩ : St)) (by kernel_rfl) rfl (by kernel_rfl) rfl (by kernel_rfl) Try.call79 (by kernel_rfl) (fun ret15v => by kernel_rfl) (fun e => by cases e) (fun hg => link79 g.2.1 (1 : Int) (5 : Int) _ (by have := gcall_T h (show (!(!ret9v)) = true from hg); exact this)) (fun hg => ⟨false, by have := gcall_F h (show (!(!ret9v)) = false from hg); exact this⟩) (fun ret15v h => ?_)
 refine rq 8 (ob := (((!ret9v) = false → True) ∧ Ts 2 (Ti 4 (((!ret9v) || (!ret15v)) = false → True) (Ts 1 True)))) (st' := (⟨58, [sp 1 1, e51_3, sB 23 (((!ret9v) || (!ret15v)) || (decide ((10 : Int) < (g.2.2.2.length : Int))))], [e51_0 g]⟩ : St)) (by kernel_rfl) (⟨(fun _ => trivial), tsI 2 (tiI 4 (fun _ => trivial) (tsI 1 trivial))⟩) ?_
 refine nn ?_
 refine aw_cond (b := (((!ret9v) || (!ret15v)) || (decide ((10 : Int) < (g.2.2.2.length : Int))))) (by kernel_rfl) (fun hb => ?_) (fun hb => ?_)
 ·have h := h.1 hb
  refine sr ?_
  refine rq 1 (ob := (Ts 1 True)) (st' := (⟨58, [sI 2 (1 : Int)], []⟩ : St)) (by kernel_rfl) (tsI 1 trivial) ?_
  refine nn ?_
  refine aw_ret ?_
  refine thenQ_r ?_
  exact retQ_r (ob := Ts 1 True) _ (by kernel_rfl) (tsI 1 trivial) h
 ·have h := h.2 hb
  refine aw_skip ?_
  refine thenQ_n ?_
  refine aw_seq ?_
  refine sr ?_
  refine rq 2 (ob := (Ts 2 True)) (st' := (⟨58, [sp 1 1, e51_3, s1 25 (.p (.sl (.pr (.int .i64) (.sl (.int .i64)))) g.2.2.2)], [e51_0 g]⟩ : St)) (by kernel_rfl) (tsI 2 trivial) ?_
  refine lcq (d := 26) [.d (.sl (.pr (.int .i64) (.sl (.int .i64)))), .fn] (fun ret26v => (⟨58, [sp 1 1, e51_3, sB 26 ret26v], [e51_0 g]⟩ : St)) (by kernel_rfl) Try.call77 (fun _ => by kernel_rfl) (link77 g.2.2.2 80 [] (fun (x : (Int × LI)) (K : Bool → Prop) => VC80 x K) ⟨Try.call80, fun x K h => link80 x K h⟩ _ h) (fun ret26v h => ?_)
  refine nn ?_
  refine aw_cond (b := ret26v) (by kernel_rfl) (fun hb => ?_) (fun hb => ?_)
  ·have h := h.1 hb
   refine sr ?_
   refine rq 1 (ob := (Ts 1 True)) (st' := (⟨58, [sI 2 (1 : Int)], []⟩ : St)) (by kernel_rfl) (tsI 1 trivial) ?_
   refine nn ?_
   refine aw_ret ?_
   refine thenQ_r ?_
   exact retQ_r (ob := Ts 1 True) _ (by kernel_rfl) (tsI 1 trivial) h
  ·have h := h.2 hb
   refine aw_skip ?_
   refine thenQ_n ?_
   refine aw_seq ?_
   refine sr ?_
   obtain ⟨o1, h⟩ := h
   refine rq 6 (ob := (Ts 5 (InR (g.2.1 - (1 : Int)) ∧ True))) (st' := (⟨58, [sp 1 1, e51_3, s1 27 (.fn 79 []), sI 29 g.2.2.1, sI 32 (g.2.1 - (1 : Int))], [e51_0 g]⟩ : St)) (by kernel_rfl) (tsI 5 ⟨o1, trivial⟩) ?_
   refine lcq (d := 33) [.d (.int .i64), .d (.int .i64), .d (.int .i64)] (fun ret33v => (⟨58, [sp 1 1, e51_3, sB 33 ret33v], [e51_0 g]⟩ : St)) (by kernel_rfl) Try.call79 (fun _ => by kernel_rfl) (link79 g.2.2.1 (0 : Int) (g.2.1 - (1 : Int)) _ h) (fun ret33v h => ?_)
   refine rq 1 (ob := (Ts 1 True)) (st' := (⟨58, [sp 1 1, e51_3, sB 34 (!ret33v)], [e51_0 g]⟩ : St)) (by kernel_rfl) (tsI 1 trivial) ?_
   refine nn ?_
   refine aw_cond (b := (!ret33v)) (by kernel_rfl) (fun hb => ?_) (fun hb => ?_)
   ·have h := h.1 hb
    refine sr ?_
    refine rq 1 (ob := (Ts 1 True)) (st' := (⟨58, [sI 2 (2 : Int)], []⟩ : St)) (by kernel_rfl) (tsI 1 trivial) ?_
    refine nn ?_
    refine aw_ret ?_
    refine thenQ_r ?_
    exact retQ_r (ob := Ts 1 True) _ (by kernel_rfl) (tsI 1 trivial) h
   ·have h := h.2 hb
    refine aw_skip ?_
    refine thenQ_n ?_
    refine aw_seq ?_
    refine sr ?_
    refine rq 4 (ob := (Ts 4 True)) (st' := (⟨58, [sp 1 1, e51_3, e51_1 g, e51_4 g, sI 38 (0 : Int)], [e51_0 g]⟩ : St)) (by kernel_rfl) (tsI 4 trivial) ?_
    refine nn ?_
    refine withJoin (σ := Unit) (fun s => (⟨58, [], []⟩ : St)) (fun s => VC51_k1 K) (fun s h => ?_) (fun rest1 => ?_)
    ·have h : VC51_k1 K := h
     unfold VC51_k1 at h
     refine thenQ_n ?_
     refine sr ?_
     refine rq 1 (ob := (Ts 1 True)) (st' := (⟨58, [sI 2 (0 : Int)], []⟩ : St)) (by kernel_rfl) (tsI 1 trivial) ?_
     refine nn ?_
     refine aw_ret ?_
     exact retQ_r (ob := Ts 1 True) _ (by kernel_rfl) (tsI 1 trivial) h
    ·refine aw_block ?_
     refine aw_loop (σ := Int) (fun s => (⟨58, [sp 1 1, e51_3, e51_1 g, e51_4 g, sI 38 s], [e51_0 g]⟩ : St)) (fun s X => VC51_l1 g K s X) (s0 := (0 : Int)) (fun v38 X1 h => ?_) h
     have h : VC51_l1 g K v38 X1 := h
     unfold VC51_l1 at h
     refine sr ?_
     refine rq 1 (ob := (Ts 1 True)) (st' := (⟨58, [sp 1 1, e51_3, e51_1 g, e51_4 g, sI 38 v38, sB 39 (decide (v38 < (g.2.2.2.length : Int)))], [e51_0 g]⟩ : St)) (by kernel_rfl) (tsI 1 trivial) ?_
     refine nn ?_
     refine aw_seq ?_
     refine aw_cond (b := (decide (v38 < (g.2.2.2.length : Int)))) (by kernel_rfl) (fun hb => ?_) (fun hb => ?_)
     ·have h := h.1 hb
      refine aw_skip ?_
      refine thenQ_n ?_
      refine aw_seq ?_
      refine aw_block ?_
      refine sr ?_
      obtain ⟨o1, h⟩ := h
      refine rq 4 (ob := (inIdx v38 g.2.2.2.length ∧ Ts 3 True)) (st' := (⟨58, [sp 1 1, e51_3, sp 5 5, e51_1 g, e51_4 g, sI 38 v38], [e51_0 g, e51_2 g v38]⟩ : St)) (by kernel_rfl) (⟨o1, tsI 3 trivial⟩) ?_
      refine nsr ?_
      obtain ⟨o1, h⟩ := h
      refine rq 6 (ob := (Ts 5 (InR (g.2.1 - (1 : Int)) ∧ True))) (st' := (⟨58, [sp 1 1, e51_3, sp 5 5, e51_1 g, e51_4 g, sI 38 v38, s1 42 (.fn 79 []), sI 44 ((g.2.2.2.getD (v38).toNat ((0 : Int), ([] : LI))).1), sI 47 (g.2.1 - (1 : Int))], [e51_0 g, e51_2 g v38]⟩ : St)) (by kernel_rfl) (tsI 5 ⟨o1, trivial⟩) ?_
      refine lcq (d := 48) [.d (.int .i64), .d (.int .i64), .d (.int .i64)] (fun ret48v => (⟨58, [sp 1 1, e51_3, sp 5 5, e51_1 g, e51_4 g, sI 38 v38, sB 48 ret48v], [e51_0 g, e51_2 g v38]⟩ : St)) (by kernel_rfl) Try.call79 (fun _ => by kernel_rfl) (link79 ((g.2.2.2.getD (v38).toNat ((0 : Int), ([] : LI))).1) (0 : Int) (g.2.1 - (1 : Int)) _ h) (fun ret48v h => ?_)
      refine rq 5 (ob := (Ts 2 (Ti 3 ((!ret48v) = false → True) True))) (st' := (⟨58, [sp 1 1, e51_3, e51_1 g, e51_4 g, sI 38 v38, sB 50 (!ret48v), (51, [(50, false)], .v (.agg [.pI g.1, .pI g.2.1, .pI g.2.2.1, .p (.sl (.pr (.int .i64) (.sl (.int .i64)))) g.2.2.2])), (53, [(50, false)], .v (.c (.pS ((g.2.2.2.getD (v38).toNat ((0 : Int), ([] : LI))).2))))], [e51_0 g]⟩ : St)) (by kernel_rfl) (tsI 2 (tiI 3 (fun _ => trivial) trivial)) ?_
      refine awl_callk (p := [(50, false)]) (l := [toV1 (.pr (.int .i64) (.pr (.int .i64) (.pr (.int .i64) (.sl (.pr (.int .i64) (.sl (.int .i64))))))) g, toV1 (.sl (.int .i64)) ((g.2.2.2.getD (v38).toNat ((0 : Int), ([] : LI))).2)]) (cl := []) false [.d (.pr (.int .i64) (.pr (.int .i64) (.pr (.int .i64) (.sl (.pr (.int .i64) (.sl (.int .i64))))))), .d (.sl (.int .i64))] [1, 3, 36, 37, 38, 50, 54] [1] (fun (ret54v : Bool) => ((((!ret48v) || (!ret54v)) = true → K (2 : Int)) ∧ (((!ret48v) || (!ret54v)) = false → (InR (v38 + (1 : Int)) ∧ X1 (v38 + (1 : Int)))))) (fun ret54v => [toV1 .bool ret54v]) (fun ret54v => (⟨58, [sp 1 1, e51_3, e51_1 g, e51_4 g, sI 38 v38, sB 50 (!ret48v), (54, [(50, false)], .v (.c (.pB ret54v)))], [e51_0 g]⟩ : St)) (by kernel_rfl) rfl (by kernel_rfl) rfl (by kernel_rfl) Try.call81 (by kernel_rfl) (fun ret54v => by kernel_rfl) (fun e => by cases e) (fun hg => link81 g ((g.2.2.2.getD (v38).toNat ((0 : Int), ([] : LI))).2) _ (by have := gcall_T h (show (!(!ret48v)) = true from hg); exact this)) (fun hg => ⟨false, by have := gcall_F h (show (!(!ret48v)) = false from hg); exact this⟩) (fun ret54v h => ?_)
      refine rq 2 (ob := (((!ret48v) = false → True) ∧ Ts 1 True)) (st' := (⟨58, [sp 1 1, e51_3, e51_1 g, e51_4 g, sI 38 v38, sB 56 ((!ret48v) || (!ret54v))], [e51_0 g]⟩ : St)) (by kernel_rfl) (⟨(fun _ => trivial), tsI 1 trivial⟩) ?_
      refine nn ?_
      refine aw_cond (b := ((!ret48v) || (!ret54v))) (by kernel_rfl) (fun hb => ?_) (fun hb => ?_)
      ·have h := h.1 hb
       refine sr ?_
       refine rq 1 (ob := (Ts 1 True)) (st' := (⟨58, [sI 2 (2 : Int)], []⟩ : St)) (by kernel_rfl) (tsI 1 trivial) ?_
       refine nn ?_
       refine aw_ret ?_
       refine blockQ_r ?_
       refine thenQ_r ?_
       refine thenQ_r ?_
       refine blockQ_r ?_
       refine thenQ_r ?_
       exact retQ_r (ob := Ts 1 True) _ (by kernel_rfl) (tsI 1 trivial) h
      ·have h := h.2 hb
       refine aw_skip ?_
       refine blockQ_n ?_
       refine thenQ_n ?_
       refine aw_region ?_
       obtain ⟨o1, h⟩ := h
       refine rq 2 (ob := (InR (v38 + (1 : Int)) ∧ Ts 1 True)) (st' := (⟨58, [sp 1 1, e51_3, e51_1 g, e51_4 g, sI 38 (v38 + (1 : Int))], [e51_0 g]⟩ : St)) (by kernel_rfl) (⟨o1, tsI 1 trivial⟩) ?_
       refine awl_nil ?_
       exact thenQ_n ⟨(v38 + (1 : Int)), rfl, h⟩
     ·have h := h.2 hb
      refine cpr (st' := (⟨58, [], []⟩ : St)) (by kernel_rfl) ?_
      refine aw_exit ?_
      refine thenQ_x ?_
      refine thenQ_x ?_
      refine blockQ_hit ?_
      exact rest1 () h

-- coppicer/machine.within
def VC106 (n : Int) (low : Int) (high : Int) (K : Bool → Prop) : Prop :=
  K ((decide (low ≤ n)) && (decide (n ≤ high)))

set_option maxHeartbeats 4000000 in
theorem link106 (n : Int) (low : Int) (high : Int) (K : Bool → Prop) (h : VC106 n low high K) : ACalls Try.prog 106 [toV1 (.int .i64) n, toV1 (.int .i64) low, toV1 (.int .i64) high] (fun res => ∃ y, res = (fun y => [toV1 .bool y]) y ∧ K y) := by
 refine acalls_of_aw [.bool] [.t 6] Try.func106 rfl rfl rfl ?_
 unfold VC106 at h
 refine sr ?_
 refine rq 1 (ob := (Ts 1 True)) (st' := (⟨15, [sI 0 n, sI 1 low, sI 2 high], []⟩ : St)) (by kernel_rfl) (tsI 1 trivial) ?_
 refine nsr ?_
 refine rq 9 (ob := (Ts 4 (Ti 3 ((decide (low ≤ n)) = true → True) (Ts 2 True)))) (st' := (⟨15, [sB 6 ((decide (low ≤ n)) && (decide (n ≤ high)))], []⟩ : St)) (by kernel_rfl) (tsI 4 (tiI 3 (fun _ => trivial) (tsI 2 trivial))) ?_
 refine nn ?_
 refine aw_ret ?_
 exact retQ_r (ob := Ts 1 True) _ (by kernel_rfl) (tsI 1 trivial) h

-- coppicer/machine.Word$1
def VC105 (sv : Int) (a1 : Int) (K : Bool → Prop) : Prop :=
  (InR (a1 - (1 : Int)) ∧ VC106 sv (0 : Int) (a1 - (1 : Int)) (fun (ret7v : Bool) => K (!ret7v)))

set_option maxHeartbeats 4000000 in
theorem link105 (sv : Int) (a1 : Int) (K : Bool → Prop) (h : VC105 sv a1 K) : ACalls Try.prog 105 [toV1 (.int .i64) sv, .c (.ad (.int .i64) a1)] (fun res => ∃ y, res = (fun y => [toV1 .bool y]) y ∧ K y) := by
 refine acalls_of_aw [.bool] [.t 3] Try.func105 rfl rfl rfl ?_
 unfold VC105 at h
 refine sr ?_
 refine rq 1 (ob := (Ts 1 True)) (st' := (⟨9, [sI 0 sv, s1 1 (.ad (.int .i64) a1)], []⟩ : St)) (by kernel_rfl) (tsI 1 trivial) ?_
 refine nsr ?_
 obtain ⟨o1, h⟩ := h
 refine rq 3 (ob := (Ts 2 (InR (a1 - (1 : Int)) ∧ True))) (st' := (⟨9, [sI 4 sv, sI 6 (a1 - (1 : Int))], []⟩ : St)) (by kernel_rfl) (tsI 2 ⟨o1, trivial⟩) ?_
 refine lcq (d := 7) [.d (.int .i64), .d (.int .i64), .d (.int .i64)] (fun ret7v => (⟨9, [sB 7 ret7v], []⟩ : St)) (by kernel_rfl) Try.call106 (fun _ => by kernel_rfl) (link106 sv (0 : Int) (a1 - (1 : Int)) _ h) (fun ret7v h => ?_)
 refine rq 2 (ob := (Ts 2 True)) (st' := (⟨9, [sB 3 (!ret7v)], []⟩ : St)) (by kernel_rfl) (tsI 2 trivial) ?_
 refine nn ?_
 refine aw_ret ?_
 exact retQ_r (ob := Ts 1 True) _ (by kernel_rfl) (tsI 1 trivial) h

-- coppicer/machine.Word
def VC75 (k : Int) (w : LI) (K : Int → Prop) : Prop :=
  (((decide ((12 : Int) < (w.length : Int))) = true → K (1 : Int)) ∧ ((decide ((12 : Int) < (w.length : Int))) = false → VC59 w (fun (x : Int) (K : Bool → Prop) => VC105 x k K) (fun (ret10v : Bool) => ((ret10v = true → K (2 : Int)) ∧ (ret10v = false → K (0 : Int))))))

set_option maxHeartbeats 4000000 in
theorem link75 (k : Int) (w : LI) (K : Int → Prop) (h : VC75 k w K) : ACalls Try.prog 75 [toV1 (.int .i64) k, toV1 (.sl (.int .i64)) w] (fun res => ∃ y, res = (fun y => [toV1 (.int .i64) y]) y ∧ K y) := by
 refine acalls_of_aw [(.int .i64)] [.t 4] Try.func75 rfl rfl rfl ?_
 unfold VC75 at h
 refine sr ?_
 refine rq 2 (ob := (Ts 2 True)) (st' := (⟨11, [s1 1 (.pS w), sp 2 2], [hB 2 [.pI k]]⟩ : St)) (by kernel_rfl) (tsI 2 trivial) ?_
 refine nn ?_
 refine aw_seq ?_
 refine sr ?_
 refine rq 3 (ob := (Ts 3 True)) (st' := (⟨11, [s1 1 (.pS w), sp 2 2, sB 7 (decide ((12 : Int) < (w.length : Int)))], [hB 2 [.pI k]]⟩ : St)) (by kernel_rfl) (tsI 3 trivial) ?_
 refine nn ?_
 refine aw_cond (b := (decide ((12 : Int) < (w.length : Int)))) (by kernel_rfl) (fun hb => ?_) (fun hb => ?_)
 ·have h := h.1 hb
  refine sr ?_
  refine rq 1 (ob := (Ts 1 True)) (st' := (⟨11, [sI 4 (1 : Int)], []⟩ : St)) (by kernel_rfl) (tsI 1 trivial) ?_
  refine nn ?_
  refine aw_ret ?_
  refine thenQ_r ?_
  exact retQ_r (ob := Ts 1 True) _ (by kernel_rfl) (tsI 1 trivial) h
 ·have h := h.2 hb
  refine aw_skip ?_
  refine thenQ_n ?_
  refine aw_seq ?_
  refine sr ?_
  refine rq 1 (ob := (Ts 1 True)) (st' := (⟨11, [sp 2 2, s1 8 (.pS w)], [hB 2 [.pI k]]⟩ : St)) (by kernel_rfl) (tsI 1 trivial) ?_
  refine awl_conv [.freezeB 2 (.int .i64)] (st' := (⟨11, [s1 2 (.ad (.int .i64) k), s1 8 (.pS w)], []⟩ : St)) (by kernel_rfl) ?_
  refine rq 1 (ob := (Ts 1 True)) (st' := (⟨11, [s1 8 (.pS w), s1 9 (.fn 105 [(⟨(.int .i64), k⟩ : Dat)])], []⟩ : St)) (by kernel_rfl) (tsI 1 trivial) ?_
  refine lcq (d := 10) [.d (.sl (.int .i64)), .fn] (fun ret10v => (⟨11, [sB 10 ret10v], []⟩ : St)) (by kernel_rfl) Try.call59 (fun _ => by kernel_rfl) (link59 w 105 [(⟨(.int .i64), k⟩ : Dat)] (fun (x : Int) (K : Bool → Prop) => VC105 x k K) ⟨Try.call105, fun x K h => link105 x k K h⟩ _ h) (fun ret10v h => ?_)
  refine nn ?_
  refine aw_cond (b := ret10v) (by kernel_rfl) (fun hb => ?_) (fun hb => ?_)
  ·have h := h.1 hb
   refine sr ?_
   refine rq 1 (ob := (Ts 1 True)) (st' := (⟨11, [sI 4 (2 : Int)], []⟩ : St)) (by kernel_rfl) (tsI 1 trivial) ?_
   refine nn ?_
   refine aw_ret ?_
   refine thenQ_r ?_
   exact retQ_r (ob := Ts 1 True) _ (by kernel_rfl) (tsI 1 trivial) h
  ·have h := h.2 hb
   refine aw_skip ?_
   refine thenQ_n ?_
   refine sr ?_
   refine rq 1 (ob := (Ts 1 True)) (st' := (⟨11, [sI 4 (0 : Int)], []⟩ : St)) (by kernel_rfl) (tsI 1 trivial) ?_
   refine nn ?_
   refine aw_ret ?_
   exact retQ_r (ob := Ts 1 True) _ (by kernel_rfl) (tsI 1 trivial) h

abbrev e44_0 (g : (Int × (Int × (Int × (List (Int × LI)))))) : Nat × Path × Con := hB 2 [.pI g.1, .pI g.2.1, .pI g.2.2.1, .p (.sl (.pr (.int .i64) (.sl (.int .i64)))) g.2.2.2]
-- coppicer/table.Check
def VC44 (g : (Int × (Int × (Int × (List (Int × LI)))))) (w : LI) (K : Int → Prop) : Prop :=
  VC51 g (fun (ret7v : Int) => (((!decide (ret7v = (0 : Int))) = true → K ret7v) ∧ ((!decide (ret7v = (0 : Int))) = false → VC75 g.1 w (fun (ret14v : Int) => K ret14v))))

set_option maxHeartbeats 4000000 in
theorem link44 (g : (Int × (Int × (Int × (List (Int × LI)))))) (w : LI) (K : Int → Prop) (h : VC44 g w K) : ACalls Try.prog 44 [toV1 (.pr (.int .i64) (.pr (.int .i64) (.pr (.int .i64) (.sl (.pr (.int .i64) (.sl (.int .i64))))))) g, toV1 (.sl (.int .i64)) w] (fun res => ∃ y, res = (fun y => [toV1 (.int .i64) y]) y ∧ K y) := by
 refine acalls_of_aw [(.int .i64)] [.t 4] Try.func44 rfl rfl rfl ?_
 unfold VC44 at h
 refine sr ?_
 refine rq 2 (ob := (Ts 2 True)) (st' := (⟨15, [s1 1 (.pS w), sp 2 2], [e44_0 g]⟩ : St)) (by kernel_rfl) (tsI 2 trivial) ?_
 refine nn ?_
 refine aw_seq ?_
 refine sr ?_
 refine rq 1 (ob := (Ts 1 True)) (st' := (⟨15, [s1 1 (.pS w), sp 2 2, sA 6 [.pI g.1, .pI g.2.1, .pI g.2.2.1, .p (.sl (.pr (.int .i64) (.sl (.int .i64)))) g.2.2.2]], [e44_0 g]⟩ : St)) (by kernel_rfl) (tsI 1 trivial) ?_
 refine lcq (d := 7) [.d (.pr (.int .i64) (.pr (.int .i64) (.pr (.int .i64) (.sl (.pr (.int .i64) (.sl (.int .i64)))))))] (fun ret7v => (⟨15, [s1 1 (.pS w), sp 2 2, sI 7 ret7v], [e44_0 g]⟩ : St)) (by kernel_rfl) Try.call51 (fun _ => by kernel_rfl) (link51 g _ h) (fun ret7v h => ?_)
 refine rq 1 (ob := (Ts 1 True)) (st' := (⟨15, [s1 1 (.pS w), sp 2 2, sI 5 ret7v], [e44_0 g]⟩ : St)) (by kernel_rfl) (tsI 1 trivial) ?_
 refine nsr ?_
 refine rq 2 (ob := (Ts 2 True)) (st' := (⟨15, [s1 1 (.pS w), sp 2 2, sI 5 ret7v, sB 9 (!decide (ret7v = (0 : Int)))], [e44_0 g]⟩ : St)) (by kernel_rfl) (tsI 2 trivial) ?_
 refine nn ?_
 refine aw_cond (b := (!decide (ret7v = (0 : Int)))) (by kernel_rfl) (fun hb => ?_) (fun hb => ?_)
 ·have h := h.1 hb
  refine sr ?_
  refine rq 2 (ob := (Ts 2 True)) (st' := (⟨15, [sI 4 ret7v], []⟩ : St)) (by kernel_rfl) (tsI 2 trivial) ?_
  refine nn ?_
  refine aw_ret ?_
  refine thenQ_r ?_
  exact retQ_r (ob := Ts 1 True) _ (by kernel_rfl) (tsI 1 trivial) h
 ·have h := h.2 hb
  refine aw_skip ?_
  refine thenQ_n ?_
  refine sr ?_
  refine rq 3 (ob := (Ts 3 True)) (st' := (⟨15, [sI 12 g.1, s1 13 (.pS w)], []⟩ : St)) (by kernel_rfl) (tsI 3 trivial) ?_
  refine lcq (d := 14) [.d (.int .i64), .d (.sl (.int .i64))] (fun ret14v => (⟨15, [sI 14 ret14v], []⟩ : St)) (by kernel_rfl) Try.call75 (fun _ => by kernel_rfl) (link75 g.1 w _ h) (fun ret14v h => ?_)
  refine rq 1 (ob := (Ts 1 True)) (st' := (⟨15, [sI 4 ret14v], []⟩ : St)) (by kernel_rfl) (tsI 1 trivial) ?_
  refine nn ?_
  refine aw_ret ?_
  exact retQ_r (ob := Ts 1 True) _ (by kernel_rfl) (tsI 1 trivial) h

-- coppicer/grammar.Proper$1
def VC108 (rv : (Int × LI)) (a1 : (Int × (Int × (Int × (List (Int × LI)))))) (K : Bool → Prop) : Prop :=
  (((decide ((rv.2.length : Int) = (0 : Int))) = false → ((decide ((rv.2.length : Int) = (1 : Int))) = true → inIdx (0 : Int) rv.2.length)) ∧ K ((decide ((rv.2.length : Int) = (0 : Int))) || ((decide ((rv.2.length : Int) = (1 : Int))) && (decide (a1.1 ≤ (rv.2.getD ((0 : Int)).toNat (0 : Int)))))))

set_option maxHeartbeats 4000000 in
theorem link108 (rv : (Int × LI)) (a1 : (Int × (Int × (Int × (List (Int × LI)))))) (K : Bool → Prop) (h : VC108 rv a1 K) : ACalls Try.prog 108 [toV1 (.pr (.int .i64) (.sl (.int .i64))) rv, .c (.ad (.pr (.int .i64) (.pr (.int .i64) (.pr (.int .i64) (.sl (.pr (.int .i64) (.sl (.int .i64))))))) a1)] (fun res => ∃ y, res = (fun y => [toV1 .bool y]) y ∧ K y) := by
 refine acalls_of_aw [.bool] [.t 3] Try.func108 rfl rfl rfl ?_
 unfold VC108 at h
 refine sr ?_
 refine rq 2 (ob := (Ts 2 True)) (st' := (⟨23, [s1 1 (.ad (.pr (.int .i64) (.pr (.int .i64) (.pr (.int .i64) (.sl (.pr (.int .i64) (.sl (.int .i64))))))) a1), sp 2 2], [hB 2 [.pI rv.1, .pS rv.2]]⟩ : St)) (by kernel_rfl) (tsI 2 trivial) ?_
 refine nn ?_
 refine aw_seq ?_
 refine awd_begin [] (by kernel_rfl) ?_
 obtain ⟨o1, h⟩ := h
 refine drq (by kernel_rfl) [0, 1, 2, 3, 4, 5, 6, 7, 8, 9, 10, 11, 12, 13, 14, 15, 16, 17, 18, 19] (ob := (Ts 5 (Ti 5 ((decide ((rv.2.length : Int) = (0 : Int))) = false → True) (((decide ((rv.2.length : Int) = (0 : Int))) = false → ((decide ((rv.2.length : Int) = (1 : Int))) = true → True)) ∧ ((decide ((rv.2.length : Int) = (0 : Int))) = false → ((decide ((rv.2.length : Int) = (1 : Int))) = true → True)) ∧ ((decide ((rv.2.length : Int) = (0 : Int))) = false → ((decide ((rv.2.length : Int) = (1 : Int))) = true → inIdx (0 : Int) rv.2.length)) ∧ ((decide ((rv.2.length : Int) = (0 : Int))) = false → ((decide ((rv.2.length : Int) = (1 : Int))) = true → True)) ∧ ((decide ((rv.2.length : Int) = (0 : Int))) = false → ((decide ((rv.2.length : Int) = (1 : Int))) = true → True)) ∧ ((decide ((rv.2.length : Int) = (0 : Int))) = false → ((decide ((rv.2.length : Int) = (1 : Int))) = true → True)) ∧ ((decide ((rv.2.length : Int) = (0 : Int))) = false → ((decide ((rv.2.length : Int) = (1 : Int))) = true → True)) ∧ ((decide ((rv.2.length : Int) = (0 : Int))) = false → True) ∧ Ts 2 True)))) (done' := [19, 18, 17, 16, 15, 14, 13, 12, 11, 10, 9, 8, 7, 6, 5, 4, 3, 2, 1, 0]) (st' := (⟨23, [sB 3 ((decide ((rv.2.length : Int) = (0 : Int))) || ((decide ((rv.2.length : Int) = (1 : Int))) && (decide (a1.1 ≤ (rv.2.getD ((0 : Int)).toNat (0 : Int))))))], []⟩ : St)) (by kernel_rfl) (tsI 5 (tiI 5 (fun _ => trivial) (tiI 2 (fun _ _ => trivial) (⟨o1, tiI 4 (fun _ _ => trivial) ⟨(fun _ => trivial), tsI 2 trivial⟩⟩)))) ?_
 refine awd_done (by kernel_rfl) ?_
 refine thenQ_n ?_
 refine aw_ret ?_
 exact retQ_r (ob := Ts 1 True) _ (by kernel_rfl) (tsI 1 trivial) h

abbrev e84_0 (g : (Int × (Int × (Int × (List (Int × LI)))))) : Nat × Path × AV := s1 4 (.p (.sl (.pr (.int .i64) (.sl (.int .i64)))) g.2.2.2)
-- coppicer/grammar.Proper
def VC84 (g : (Int × (Int × (Int × (List (Int × LI)))))) (K : Bool → Prop) : Prop :=
  VC77 g.2.2.2 (fun (x : (Int × LI)) (K : Bool → Prop) => VC108 x g K) (fun (ret6v : Bool) => K (!ret6v))

set_option maxHeartbeats 4000000 in
theorem link84 (g : (Int × (Int × (Int × (List (Int × LI)))))) (K : Bool → Prop) (h : VC84 g K) : ACalls Try.prog 84 [toV1 (.pr (.int .i64) (.pr (.int .i64) (.pr (.int .i64) (.sl (.pr (.int .i64) (.sl (.int .i64))))))) g] (fun res => ∃ y, res = (fun y => [toV1 .bool y]) y ∧ K y) := by
 refine acalls_of_aw [.bool] [.t 2] Try.func84 rfl rfl rfl ?_
 unfold VC84 at h
 refine sr ?_
 refine rq 2 (ob := (Ts 2 True)) (st' := (⟨8, [sp 1 1], [hB 1 [.pI g.1, .pI g.2.1, .pI g.2.2.1, .p (.sl (.pr (.int .i64) (.sl (.int .i64)))) g.2.2.2]]⟩ : St)) (by kernel_rfl) (tsI 2 trivial) ?_
 refine nsr ?_
 refine rq 2 (ob := (Ts 2 True)) (st' := (⟨8, [sp 1 1, e84_0 g], [hB 1 [.pI g.1, .pI g.2.1, .pI g.2.2.1, .p (.sl (.pr (.int .i64) (.sl (.int .i64)))) g.2.2.2]]⟩ : St)) (by kernel_rfl) (tsI 2 trivial) ?_
 refine awl_conv [.freezeB 1 (.pr (.int .i64) (.pr (.int .i64) (.pr (.int .i64) (.sl (.pr (.int .i64) (.sl (.int .i64)))))))] (st' := (⟨8, [s1 1 (.ad (.pr (.int .i64) (.pr (.int .i64) (.pr (.int .i64) (.sl (.pr (.int .i64) (.sl (.int .i64))))))) g), e84_0 g], []⟩ : St)) (by kernel_rfl) ?_
 refine rq 1 (ob := (Ts 1 True)) (st' := (⟨8, [e84_0 g, s1 5 (.fn 108 [(⟨(.pr (.int .i64) (.pr (.int .i64) (.pr (.int .i64) (.sl (.pr (.int .i64) (.sl (.int .i64))))))), g⟩ : Dat)])], []⟩ : St)) (by kernel_rfl) (tsI 1 trivial) ?_
 refine lcq (d := 6) [.d (.sl (.pr (.int .i64) (.sl (.int .i64)))), .fn] (fun ret6v => (⟨8, [sB 6 ret6v], []⟩ : St)) (by kernel_rfl) Try.call77 (fun _ => by kernel_rfl) (link77 g.2.2.2 108 [(⟨(.pr (.int .i64) (.pr (.int .i64) (.pr (.int .i64) (.sl (.pr (.int .i64) (.sl (.int .i64))))))), g⟩ : Dat)] (fun (x : (Int × LI)) (K : Bool → Prop) => VC108 x g K) ⟨Try.call108, fun x K h => link108 x g K h⟩ _ h) (fun ret6v h => ?_)
 refine rq 2 (ob := (Ts 2 True)) (st' := (⟨8, [sB 2 (!ret6v)], []⟩ : St)) (by kernel_rfl) (tsI 2 trivial) ?_
 refine nn ?_
 refine aw_ret ?_
 exact retQ_r (ob := Ts 1 True) _ (by kernel_rfl) (tsI 1 trivial) h

-- coppicer/table.Times
def VC124 (a : Int) (b : Int) (K : Int → Prop) : Prop :=
  ((((decide (a = (0 : Int))) || (decide (b = (0 : Int)))) = true → K (0 : Int)) ∧ (((decide (a = (0 : Int))) || (decide (b = (0 : Int)))) = false → ((0 ≤ (1099511627777 : Int) ∧ 0 < b) ∧ (((decide (((1099511627777 : Int) / b) < a)) = true → K (1099511627777 : Int)) ∧ ((decide (((1099511627777 : Int) / b) < a)) = false → (InR (a * b) ∧ K (imin (a * b) (1099511627777 : Int))))))))

set_option maxHeartbeats 4000000 in
theorem link124 (a : Int) (b : Int) (K : Int → Prop) (h : VC124 a b K) : ACalls Try.prog 124 [toV1 (.int .i64) a, toV1 (.int .i64) b] (fun res => ∃ y, res = (fun y => [toV1 (.int .i64) y]) y ∧ K y) := by
 refine acalls_of_aw [(.int .i64)] [.t 4] Try.func124 rfl rfl rfl ?_
 unfold VC124 at h
 refine sr ?_
 refine rq 1 (ob := (Ts 1 True)) (st' := (⟨19, [sI 0 a, sI 1 b], []⟩ : St)) (by kernel_rfl) (tsI 1 trivial) ?_
 refine nn ?_
 refine aw_seq ?_
 refine sr ?_
 refine rq 6 (ob := (Ts 3 (Ti 2 ((decide (a = (0 : Int))) = false → True) (Ts 1 True)))) (st' := (⟨19, [sI 0 a, sI 1 b, sB 10 ((decide (a = (0 : Int))) || (decide (b = (0 : Int))))], []⟩ : St)) (by kernel_rfl) (tsI 3 (tiI 2 (fun _ => trivial) (tsI 1 trivial))) ?_
 refine nn ?_
 refine aw_cond (b := ((decide (a = (0 : Int))) || (decide (b = (0 : Int))))) (by kernel_rfl) (fun hb => ?_) (fun hb => ?_)
 ·have h := h.1 hb
  refine sr ?_
  refine rq 1 (ob := (Ts 1 True)) (st' := (⟨19, [sI 4 (0 : Int)], []⟩ : St)) (by kernel_rfl) (tsI 1 trivial) ?_
  refine nn ?_
  refine aw_ret ?_
  refine thenQ_r ?_
  exact retQ_r (ob := Ts 1 True) _ (by kernel_rfl) (tsI 1 trivial) h
 ·have h := h.2 hb
  refine aw_skip ?_
  refine thenQ_n ?_
  refine aw_seq ?_
  refine sr ?_
  obtain ⟨o1, h⟩ := h
  refine rq 4 (ob := (Ts 2 ((0 ≤ (1099511627777 : Int) ∧ 0 < b) ∧ Ts 1 True))) (st' := (⟨19, [sI 0 a, sI 1 b, sB 14 (decide (((1099511627777 : Int) / b) < a))], []⟩ : St)) (by kernel_rfl) (tsI 2 ⟨o1, tsI 1 trivial⟩) ?_
  refine nn ?_
  refine aw_cond (b := (decide (((1099511627777 : Int) / b) < a))) (by kernel_rfl) (fun hb => ?_) (fun hb => ?_)
  ·have h := h.1 hb
   refine sr ?_
   refine rq 1 (ob := (Ts 1 True)) (st' := (⟨19, [sI 4 (1099511627777 : Int)], []⟩ : St)) (by kernel_rfl) (tsI 1 trivial) ?_
   refine nn ?_
   refine aw_ret ?_
   refine thenQ_r ?_
   exact retQ_r (ob := Ts 1 True) _ (by kernel_rfl) (tsI 1 trivial) h
  ·have h := h.2 hb
   refine aw_skip ?_
   refine thenQ_n ?_
   refine sr ?_
   obtain ⟨o1, h⟩ := h
   refine rq 5 (ob := (Ts 2 (InR (a * b) ∧ Ts 2 True))) (st' := (⟨19, [sI 4 (imin (a * b) (1099511627777 : Int))], []⟩ : St)) (by kernel_rfl) (tsI 2 ⟨o1, tsI 2 trivial⟩) ?_
   refine nn ?_
   refine aw_ret ?_
   exact retQ_r (ob := Ts 1 True) _ (by kernel_rfl) (tsI 1 trivial) h

-- coppicer/table.Add
def VC109 (a : Int) (b : Int) (K : Int → Prop) : Prop :=
  (InR (a + b) ∧ K (imin (a + b) (1099511627777 : Int)))

set_option maxHeartbeats 4000000 in
theorem link109 (a : Int) (b : Int) (K : Int → Prop) (h : VC109 a b K) : ACalls Try.prog 109 [toV1 (.int .i64) a, toV1 (.int .i64) b] (fun res => ∃ y, res = (fun y => [toV1 (.int .i64) y]) y ∧ K y) := by
 refine acalls_of_aw [(.int .i64)] [.t 4] Try.func109 rfl rfl rfl ?_
 unfold VC109 at h
 refine sr ?_
 refine rq 1 (ob := (Ts 1 True)) (st' := (⟨9, [sI 0 a, sI 1 b], []⟩ : St)) (by kernel_rfl) (tsI 1 trivial) ?_
 refine nsr ?_
 obtain ⟨o1, h⟩ := h
 refine rq 5 (ob := (Ts 2 (InR (a + b) ∧ Ts 2 True))) (st' := (⟨9, [sI 4 (imin (a + b) (1099511627777 : Int))], []⟩ : St)) (by kernel_rfl) (tsI 2 ⟨o1, tsI 2 trivial⟩) ?_
 refine nn ?_
 refine aw_ret ?_
 exact retQ_r (ob := Ts 1 True) _ (by kernel_rfl) (tsI 1 trivial) h

-- slices.Clone[[]int,int]
def VC123 (sv : LI) (K : LI → Prop) : Prop :=
  (∀ nil4 : Bool, (nil4 = true → sv = []) → ((nil4 = true → K ([] : List Int)) ∧ (nil4 = false → (roomN (([] : List Int).length + sv.length) ∧ K (([] : List Int) ++ sv)))))

set_option maxHeartbeats 4000000 in
theorem link123 (sv : LI) (K : LI → Prop) (h : VC123 sv K) : ACallsO Try.prog 123 [toV1 (.sl (.int .i64)) sv] 3 (.int .i64) K := by
 refine acallsO_of_aw 2 Try.func123 rfl rfl rfl ?_
 unfold VC123 at h
 refine sr ?_
 refine rq 1 (ob := (Ts 1 True)) (st' := (⟨8, [s1 0 (.pS sv)], []⟩ : St)) (by kernel_rfl) (tsI 1 trivial) ?_
 refine nn ?_
 refine aw_seq ?_
 refine sr ?_
 refine rq 1 (ob := (Ts 1 True)) (st' := (⟨8, [s1 0 (.pS sv), s1 3 (.pS sv)], []⟩ : St)) (by kernel_rfl) (tsI 1 trivial) ?_
 refine awl_nil_eql [0, 4] [] (fun nil4 => (⟨8, [s1 0 (.pS sv), sB 4 nil4], []⟩ : St)) rfl rfl (by kernel_rfl) rfl (e := 3) (by kernel_rfl) (l := sv) (u := (.int .i64)) (by kernel_rfl) (fun nil4 => by kernel_rfl) (fun nil4 hnil => ?_)
 have h := h nil4 hnil
 refine nn ?_
 refine aw_cond (b := nil4) (by kernel_rfl) (fun hb => ?_) (fun hb => ?_)
 ·have h := h.1 hb
  refine sr ?_
  refine rq 1 (ob := (Ts 1 True)) (st' := (⟨8, [s1 2 (.nils)], []⟩ : St)) (by kernel_rfl) (tsI 1 trivial) ?_
  refine nn ?_
  refine aw_conv [.nilOwn 2 5002 3 (.int .i64)] (st' := (⟨8, [s1 2 (.own 5002)], [hA 5002 3 (.int .i64) ([] : List Int)]⟩ : St)) (by kernel_rfl) ?_
  refine aw_ret ?_
  refine thenQ_r ?_
  exact ⟨5002, _, by kernel_rfl, by kernel_rfl, h⟩
 ·have h := h.2 hb
  refine aw_skip ?_
  refine thenQ_n ?_
  refine sr ?_
  obtain ⟨o1, h⟩ := h
  refine rq 4 (ob := (Ts 2 (roomN (([] : List Int).length + sv.length) ∧ Ts 1 True))) (st' := (⟨8, [s1 2 (.own 7)], [hA 7 3 (.int .i64) (([] : List Int) ++ sv)]⟩ : St)) (by kernel_rfl) (tsI 2 ⟨o1, tsI 1 trivial⟩) ?_
  refine nn ?_
  refine aw_ret ?_
  exact ⟨7, _, by kernel_rfl, by kernel_rfl, h⟩

abbrev e97_0 (out : (List (Int × Int))) (fromv2 : Int) (ends : LI) (v10 : Int) : Nat × Path × Con := hA 19 79 (.pr (.int .i64) (.int .i64)) (out ++ [(fromv2, (ends.getD (v10).toNat (0 : Int)))])
abbrev e97_1 (ends : LI) : Nat × Path × AV := sI 9 (ends.length : Int)
abbrev e97_2 (out : (List (Int × Int))) : Nat × Path × Con := hA 5005 79 (.pr (.int .i64) (.int .i64)) out
abbrev e97_3 : Nat × Path × AV := s1 5 (.own 5005)
-- coppicer/pick.ranges
def VC97_k1 (K : (List (Int × Int)) → Prop) (out : (List (Int × Int))) : Prop :=
  K out

def VC97_l1 (ends : LI) (K : (List (Int × Int)) → Prop) (fromv2 : Int) (v10 : Int) (out : (List (Int × Int))) (X1 : Int × Int × (List (Int × Int)) → Prop) : Prop :=
  (((decide (v10 < (ends.length : Int))) = true → (inIdx v10 ends.length ∧ (roomN (out.length + [(fromv2, (ends.getD (v10).toNat (0 : Int)))].length) ∧ (InR (v10 + (1 : Int)) ∧ X1 ((ends.getD (v10).toNat (0 : Int)), (v10 + (1 : Int)), (out ++ [(fromv2, (ends.getD (v10).toNat (0 : Int)))])))))) ∧ ((decide (v10 < (ends.length : Int))) = false → VC97_k1 K out))

def VC97 (fromv : Int) (ends : LI) (K : (List (Int × Int)) → Prop) : Prop :=
  Loop (σ := Int × Int × (List (Int × Int))) (fun s X => VC97_l1 ends K s.1 s.2.1 s.2.2 X) (fromv, (0 : Int), ([] : List (Int × Int)))

set_option maxHeartbeats 4000000 in
theorem link97 (fromv : Int) (ends : LI) (K : (List (Int × Int)) → Prop) (h : VC97 fromv ends K) : ACalls Try.prog 97 [toV1 (.int .i64) fromv, toV1 (.sl (.int .i64)) ends] (fun res => ∃ y, res = (fun y => [toV1 (.sl (.pr (.int .i64) (.int .i64))) y]) y ∧ K y) := by
 refine acalls_of_aw [(.sl (.pr (.int .i64) (.int .i64)))] [.t 4] Try.func97 rfl rfl rfl ?_
 unfold VC97 at h
 refine sr ?_
 refine rq 1 (ob := (Ts 1 True)) (st' := (⟨23, [sI 0 fromv, s1 1 (.pS ends)], []⟩ : St)) (by kernel_rfl) (tsI 1 trivial) ?_
 refine nsr ?_
 refine rq 1 (ob := (Ts 1 True)) (st' := (⟨23, [sI 0 fromv, s1 1 (.pS ends), s1 5 (.nils)], []⟩ : St)) (by kernel_rfl) (tsI 1 trivial) ?_
 refine nn ?_
 refine aw_seq ?_
 refine sr ?_
 refine rq 3 (ob := (Ts 3 True)) (st' := (⟨23, [sI 0 fromv, s1 5 (.nils), s1 8 (.pS ends), e97_1 ends, sI 10 (0 : Int)], []⟩ : St)) (by kernel_rfl) (tsI 3 trivial) ?_
 refine nn ?_
 refine withJoin (σ := (List (Int × Int))) (fun s => (⟨23, [e97_3], [hA 5005 79 (.pr (.int .i64) (.int .i64)) s]⟩ : St)) (fun s => VC97_k1 K s) (fun out h => ?_) (fun rest1 => ?_)
 ·have h : VC97_k1 K out := h
  unfold VC97_k1 at h
  refine thenQ_n ?_
  refine sr ?_
  refine rq 2 (ob := (Ts 2 True)) (st' := (⟨23, [s1 4 (.own 5005)], [e97_2 out]⟩ : St)) (by kernel_rfl) (tsI 2 trivial) ?_
  refine nn ?_
  refine aw_conv [.freeze 5005] (st' := (⟨23, [s1 4 (.p (.sl (.pr (.int .i64) (.int .i64))) out)], []⟩ : St)) (by kernel_rfl) ?_
  refine aw_ret ?_
  exact retQ_r (ob := Ts 1 True) _ (by kernel_rfl) (tsI 1 trivial) h
 ·refine aw_block ?_
  refine aw_conv [.nilOwn 5 5005 79 (.pr (.int .i64) (.int .i64)), .prune [0, 5, 8, 9, 10] [5005]] (st' := (⟨23, [sI 0 fromv, e97_3, s1 8 (.pS ends), e97_1 ends, sI 10 (0 : Int)], [hA 5005 79 (.pr (.int .i64) (.int .i64)) ([] : List (Int × Int))]⟩ : St)) (by kernel_rfl) ?_
  refine aw_loop (σ := Int × Int × (List (Int × Int))) (fun s => (⟨23, [sI 0 s.1, e97_3, s1 8 (.pS ends), e97_1 ends, sI 10 s.2.1], [hA 5005 79 (.pr (.int .i64) (.int .i64)) s.2.2]⟩ : St)) (fun s X => VC97_l1 ends K s.1 s.2.1 s.2.2 X) (s0 := (fromv, (0 : Int), ([] : List (Int × Int)))) (fun s X1 h => ?_) h
  obtain ⟨fromv2, v10, out⟩ := s
  have h : VC97_l1 ends K fromv2 v10 out X1 := h
  unfold VC97_l1 at h
  refine sr ?_
  refine rq 1 (ob := (Ts 1 True)) (st' := (⟨23, [sI 0 fromv2, e97_3, s1 8 (.pS ends), e97_1 ends, sI 10 v10, sB 11 (decide (v10 < (ends.length : Int)))], [e97_2 out]⟩ : St)) (by kernel_rfl) (tsI 1 trivial) ?_
  refine nn ?_
  refine aw_seq ?_
  refine aw_cond (b := (decide (v10 < (ends.length : Int)))) (by kernel_rfl) (fun hb => ?_) (fun hb => ?_)
  ·have h := h.1 hb
   refine aw_skip ?_
   refine thenQ_n ?_
   refine aw_seq ?_
   refine aw_block ?_
   refine sr ?_
   obtain ⟨o1, h⟩ := h
   refine rq 3 (ob := (inIdx v10 ends.length ∧ Ts 2 True)) (st' := (⟨23, [sI 0 fromv2, e97_3, sI 7 (ends.getD (v10).toNat (0 : Int)), s1 8 (.pS ends), e97_1 ends, sI 10 v10], [e97_2 out]⟩ : St)) (by kernel_rfl) (⟨o1, tsI 2 trivial⟩) ?_
   refine nsr ?_
   obtain ⟨o1, h⟩ := h
   refine rq 7 (ob := (Ts 5 (roomN (out.length + [(fromv2, (ends.getD (v10).toNat (0 : Int)))].length) ∧ Ts 1 True))) (st' := (⟨23, [s1 5 (.own 19), sI 7 (ends.getD (v10).toNat (0 : Int)), s1 8 (.pS ends), e97_1 ends, sI 10 v10], [e97_0 out fromv2 ends v10]⟩ : St)) (by kernel_rfl) (tsI 5 ⟨o1, tsI 1 trivial⟩) ?_
   refine nn ?_
   refine aw_region ?_
   refine rq 2 (ob := (Ts 2 True)) (st' := (⟨23, [sI 0 (ends.getD (v10).toNat (0 : Int)), s1 5 (.own 19), s1 8 (.pS ends), e97_1 ends, sI 10 v10], [e97_0 out fromv2 ends v10]⟩ : St)) (by kernel_rfl) (tsI 2 trivial) ?_
   refine awl_nil ?_
   refine blockQ_n ?_
   refine thenQ_n ?_
   refine aw_region ?_
   obtain ⟨o1, h⟩ := h
   refine rq 2 (ob := (InR (v10 + (1 : Int)) ∧ Ts 1 True)) (st' := (⟨23, [sI 0 (ends.getD (v10).toNat (0 : Int)), s1 5 (.own 19), s1 8 (.pS ends), e97_1 ends, sI 10 (v10 + (1 : Int))], [e97_0 out fromv2 ends v10]⟩ : St)) (by kernel_rfl) (⟨o1, tsI 1 trivial⟩) ?_
   refine awl_conv [.ren 19 20019, .ren 20019 5005] (st' := (⟨23, [sI 0 (ends.getD (v10).toNat (0 : Int)), e97_3, s1 8 (.pS ends), e97_1 ends, sI 10 (v10 + (1 : Int))], [hA 5005 79 (.pr (.int .i64) (.int .i64)) (out ++ [(fromv2, (ends.getD (v10).toNat (0 : Int)))])]⟩ : St)) (by kernel_rfl) ?_
   refine awl_nil ?_
   exact thenQ_n ⟨((ends.getD (v10).toNat (0 : Int)), (v10 + (1 : Int)), (out ++ [(fromv2, (ends.getD (v10).toNat (0 : Int)))])), rfl, h⟩
  ·have h := h.2 hb
   refine cpr (st' := (⟨23, [e97_3], [e97_2 out]⟩ : St)) (by kernel_rfl) ?_
   refine aw_exit ?_
   refine thenQ_x ?_
   refine thenQ_x ?_
   refine blockQ_hit ?_
   exact rest1 out h

abbrev e33_0 (c0 : Int) (c1 : Int) (c2 : Int) (c3 : (List (Int × LI))) (c4 : LI) : Nat × Path × Con := hB 40200 [.pI c0, .pI c1, .pI c2, .p (.sl (.pr (.int .i64) (.sl (.int .i64)))) c3, .pS c4, .own 40201]
abbrev e33_1 (c3 : (List (Int × LI))) (c : Int) (rule : Int) : Nat × Path × AV := sI 1 ((((c3.getD (c).toNat ((0 : Int), ([] : LI))).2).drop (rule).toNat).getD ((0 : Int)).toNat (0 : Int))
abbrev e33_2 (c3 : (List (Int × LI))) (c : Int) (rule : Int) (fromv : Int) (over : Int) : Nat × Path × Con := hB 7 [.pI (-1 : Int), .pI ((((c3.getD (c).toNat ((0 : Int), ([] : LI))).2).drop (rule).toNat).getD ((0 : Int)).toNat (0 : Int)), .pI fromv, .pI over]
abbrev e33_3 (c3 : (List (Int × LI))) (c : Int) (rule : Int) (fromv : Int) (endv : Int) : Nat × Path × Con := hB 7 [.pI (-1 : Int), .pI ((((c3.getD (c).toNat ((0 : Int), ([] : LI))).2).drop (rule).toNat).getD ((0 : Int)).toNat (0 : Int)), .pI fromv, .pI endv]
abbrev e33_4 (c3 : (List (Int × LI))) (c : Int) (rule : Int) : Nat × Path × AV := s1 96 (.pS (((c3.getD (c).toNat ((0 : Int), ([] : LI))).2).drop (rule).toNat))
abbrev e33_5 (c : Int) (rule : Int) (fromv : Int) (over : Int) : Nat × Path × Con := hB 30101 [.pI c, .pI rule, .pI fromv, .pI over]
abbrev e33_6 (c3 : (List (Int × LI))) (c : Int) (rule : Int) : Nat × Path × AV := s1 9 (.pS (((c3.getD (c).toNat ((0 : Int), ([] : LI))).2).drop (rule).toNat))
abbrev e33_7 (l40201 : (List ((Int × (Int × (Int × Int))) × Int))) : Nat × Path × Con := (40201, [], .dict (.pr (.int .i64) t3) (.int .i64) l40201)
abbrev e33_8 (c3 : (List (Int × LI))) : Nat × Path × AV := s1 56 (.p (.sl (.pr (.int .i64) (.sl (.int .i64)))) c3)
abbrev e33_9 (c5 : (List ((Int × (Int × (Int × Int))) × Int))) : Nat × Path × Con := (40201, [], .dict (.pr (.int .i64) t3) (.int .i64) c5)
abbrev e33_10 (fromv : Int) (over : Int) : Nat × Path × Con := hB 30100 [.pI fromv, .pI over]
abbrev e33_11 (l402012 : (List ((Int × (Int × (Int × Int))) × Int))) : Nat × Path × Con := (40201, [], .dict (.pr (.int .i64) t3) (.int .i64) l402012)
abbrev e33_12 : Nat × Path × AV := sp 0 40200
abbrev e33_13 : Nat × Path × AV := sp 186 40200
abbrev e33_14 (c3 : (List (Int × LI))) : Nat × Path × AV := sI 57 (c3.length : Int)
abbrev e33_15 (fromv : Int) (over : Int) : Nat × Path × Con := hB 5 [.pI fromv, .pI over]
abbrev e33_16 (fromv : Int) (endv : Int) : Nat × Path × Con := hB 5 [.pI fromv, .pI endv]
abbrev e33_17 (ret77v : Int × (List ((Int × (Int × (Int × Int))) × Int))) : Nat × Path × Con := (40201, [], .dict (.pr (.int .i64) t3) (.int .i64) ret77v.2)
abbrev e33_18 : Nat × Path × AV := sp 99 40200
abbrev e33_19 (c : Int) (rule : Int) (fromv : Int) (over : Int) : Nat × Path × Con := hB 10 [.pI c, .pI rule, .pI fromv, .pI over]
abbrev e33_20 (c3 : (List (Int × LI))) (v58 : Int) (c : Int) (rule : Int) (c0 : Int) : Nat × Path × AV := sB 72 (decide ((c3.getD (v58).toNat ((0 : Int), ([] : LI))).1 = (((((c3.getD (c).toNat ((0 : Int), ([] : LI))).2).drop (rule).toNat).getD ((0 : Int)).toNat (0 : Int)) - c0)))
abbrev e33_21 : Nat × Path × AV := sp 87 40200
abbrev e33_22 : Nat × Path × AV := sp 94 30100
abbrev e33_23 : Nat × Path × AV := sp 97 30101
abbrev e33_24 (c3 : (List (Int × LI))) (c : Int) (rule : Int) : Nat × Path × AV := sI 71 ((((c3.getD (c).toNat ((0 : Int), ([] : LI))).2).drop (rule).toNat).getD ((0 : Int)).toNat (0 : Int))
abbrev e33_25 (fromv : Int) (over : Int) : Nat × Path × Con := hB 7 [.pI fromv, .pI over]
abbrev e33_26 (ret89v : Int × (List ((Int × (Int × (Int × Int))) × Int))) : Nat × Path × Con := (40201, [], .dict (.pr (.int .i64) t3) (.int .i64) ret89v.2)
abbrev e33_27 (c3 : (List (Int × LI))) (v58 : Int) : Nat × Path × Con := hB 12 [.pI ((c3.getD (v58).toNat ((0 : Int), ([] : LI))).1), .pS ((c3.getD (v58).toNat ((0 : Int), ([] : LI))).2)]
abbrev e33_28 : Nat × Path × AV := sp 10 30101
abbrev e33_29 : Nat × Path × AV := sp 7 30100
-- (*coppicer/table.Counter).Row
def VCc100_k1 (K : Int × (List ((Int × (Int × (Int × Int))) × Int)) → Prop) (v6 : Int) (l40201 : (List ((Int × (Int × (Int × Int))) × Int))) : Prop :=
  K (v6, l40201)

def VCc100_k2 (c3 : (List (Int × LI))) (c : Int) (rule : Int) (fromv : Int) (over : Int) (K : Int × (List ((Int × (Int × (Int × Int))) × Int)) → Prop) (n : Int) (l40201 : (List ((Int × (Int × (Int × Int))) × Int))) : Prop :=
  VCc100_k1 K n (mset l40201 ((-1 : Int), (((((c3.getD (c).toNat ((0 : Int), ([] : LI))).2).drop (rule).toNat).getD ((0 : Int)).toNat (0 : Int)), (fromv, over))) n)

def VCc100_k3 (v58 : Int) (X1 : Int × Int × (List ((Int × (Int × (Int × Int))) × Int)) → Prop) (n2 : Int) (l402012 : (List ((Int × (Int × (Int × Int))) × Int))) : Prop :=
  (InR (v58 + (1 : Int)) ∧ X1 (n2, (v58 + (1 : Int)), l402012))

def VCc100_l1 (c0 : Int) (c3 : (List (Int × LI))) (R : Int → Int → Int → Int → (List ((Int × (Int × (Int × Int))) × Int)) → (Int × (List ((Int × (Int × (Int × Int))) × Int)) → Prop) → Prop) (c : Int) (rule : Int) (fromv : Int) (over : Int) (K : Int × (List ((Int × (Int × (Int × Int))) × Int)) → Prop) (n : Int) (v58 : Int) (l40201 : (List ((Int × (Int × (Int × Int))) × Int))) (X1 : Int × Int × (List ((Int × (Int × (Int × Int))) × Int)) → Prop) : Prop :=
  (((decide (v58 < (c3.length : Int))) = true → (inIdx v58 c3.length ∧ (InR (((((c3.getD (c).toNat ((0 : Int), ([] : LI))).2).drop (rule).toNat).getD ((0 : Int)).toNat (0 : Int)) - c0) ∧ (((decide ((c3.getD (v58).toNat ((0 : Int), ([] : LI))).1 = (((((c3.getD (c).toNat ((0 : Int), ([] : LI))).2).drop (rule).toNat).getD ((0 : Int)).toNat (0 : Int)) - c0))) = true → R v58 (0 : Int) fromv over l40201 (fun (ret77v : Int × (List ((Int × (Int × (Int × Int))) × Int))) => VC109 n ret77v.1 (fun (ret78v : Int) => VCc100_k3 v58 X1 ret78v ret77v.2))) ∧ ((decide ((c3.getD (v58).toNat ((0 : Int), ([] : LI))).1 = (((((c3.getD (c).toNat ((0 : Int), ([] : LI))).2).drop (rule).toNat).getD ((0 : Int)).toNat (0 : Int)) - c0))) = false → VCc100_k3 v58 X1 n l40201))))) ∧ ((decide (v58 < (c3.length : Int))) = false → VCc100_k2 c3 c rule fromv over K n l40201))

def VCc100_k4 (c : Int) (rule : Int) (fromv : Int) (over : Int) (K : Int × (List ((Int × (Int × (Int × Int))) × Int)) → Prop) (n : Int) (l40201 : (List ((Int × (Int × (Int × Int))) × Int))) : Prop :=
  K (n, (mset l40201 (c, (rule, (fromv, over))) n))

def VCc100_k6 (endv : Int) (X2 : Int × Int × (List ((Int × (Int × (Int × Int))) × Int)) → Prop) (n2 : Int) (l402013 : (List ((Int × (Int × (Int × Int))) × Int))) : Prop :=
  (InR (endv + (1 : Int)) ∧ X2 (n2, (endv + (1 : Int)), l402013))

def VCc100_k5 (R : Int → Int → Int → Int → (List ((Int × (Int × (Int × Int))) × Int)) → (Int × (List ((Int × (Int × (Int × Int))) × Int)) → Prop) → Prop) (c : Int) (rule : Int) (over : Int) (n : Int) (endv : Int) (X2 : Int × Int × (List ((Int × (Int × (Int × Int))) × Int)) → Prop) (v6 : Int) (l402012 : (List ((Int × (Int × (Int × Int))) × Int))) : Prop :=
  (((decide ((0 : Int) < v6)) = true → (InR (rule + (1 : Int)) ∧ R c (rule + (1 : Int)) endv over l402012 (fun (ret89v : Int × (List ((Int × (Int × (Int × Int))) × Int))) => VC124 v6 ret89v.1 (fun (ret90v : Int) => VC109 n ret90v (fun (ret91v : Int) => VCc100_k6 endv X2 ret91v ret89v.2))))) ∧ ((decide ((0 : Int) < v6)) = false → VCc100_k6 endv X2 n l402012))

def VCc100_k7 (c3 : (List (Int × LI))) (R : Int → Int → Int → Int → (List ((Int × (Int × (Int × Int))) × Int)) → (Int × (List ((Int × (Int × (Int × Int))) × Int)) → Prop) → Prop) (c : Int) (rule : Int) (fromv : Int) (over : Int) (n : Int) (endv : Int) (X2 : Int × Int × (List ((Int × (Int × (Int × Int))) × Int)) → Prop) (n2 : Int) (l402012 : (List ((Int × (Int × (Int × Int))) × Int))) : Prop :=
  VCc100_k5 R c rule over n endv X2 n2 (mset l402012 ((-1 : Int), (((((c3.getD (c).toNat ((0 : Int), ([] : LI))).2).drop (rule).toNat).getD ((0 : Int)).toNat (0 : Int)), (fromv, endv))) n2)

def VCc100_k8 (v58 : Int) (X3 : Int × Int × (List ((Int × (Int × (Int × Int))) × Int)) → Prop) (n3 : Int) (l402013 : (List ((Int × (Int × (Int × Int))) × Int))) : Prop :=
  (InR (v58 + (1 : Int)) ∧ X3 (n3, (v58 + (1 : Int)), l402013))

def VCc100_l3 (c0 : Int) (c3 : (List (Int × LI))) (R : Int → Int → Int → Int → (List ((Int × (Int × (Int × Int))) × Int)) → (Int × (List ((Int × (Int × (Int × Int))) × Int)) → Prop) → Prop) (c : Int) (rule : Int) (fromv : Int) (over : Int) (n : Int) (endv : Int) (X2 : Int × Int × (List ((Int × (Int × (Int × Int))) × Int)) → Prop) (n2 : Int) (v58 : Int) (l402012 : (List ((Int × (Int × (Int × Int))) × Int))) (X3 : Int × Int × (List ((Int × (Int × (Int × Int))) × Int)) → Prop) : Prop :=
  (((decide (v58 < (c3.length : Int))) = true → (inIdx v58 c3.length ∧ (InR (((((c3.getD (c).toNat ((0 : Int), ([] : LI))).2).drop (rule).toNat).getD ((0 : Int)).toNat (0 : Int)) - c0) ∧ (((decide ((c3.getD (v58).toNat ((0 : Int), ([] : LI))).1 = (((((c3.getD (c).toNat ((0 : Int), ([] : LI))).2).drop (rule).toNat).getD ((0 : Int)).toNat (0 : Int)) - c0))) = true → R v58 (0 : Int) fromv endv l402012 (fun (ret77v : Int × (List ((Int × (Int × (Int × Int))) × Int))) => VC109 n2 ret77v.1 (fun (ret78v : Int) => VCc100_k8 v58 X3 ret78v ret77v.2))) ∧ ((decide ((c3.getD (v58).toNat ((0 : Int), ([] : LI))).1 = (((((c3.getD (c).toNat ((0 : Int), ([] : LI))).2).drop (rule).toNat).getD ((0 : Int)).toNat (0 : Int)) - c0))) = false → VCc100_k8 v58 X3 n2 l402012))))) ∧ ((decide (v58 < (c3.length : Int))) = false → VCc100_k7 c3 R c rule fromv over n endv X2 n2 l402012))

def VCc100_l2 (c0 : Int) (c3 : (List (Int × LI))) (c4 : LI) (R : Int → Int → Int → Int → (List ((Int × (Int × (Int × Int))) × Int)) → (Int × (List ((Int × (Int × (Int × Int))) × Int)) → Prop) → Prop) (c : Int) (rule : Int) (fromv : Int) (over : Int) (K : Int × (List ((Int × (Int × (Int × Int))) × Int)) → Prop) (n : Int) (endv : Int) (l40201 : (List ((Int × (Int × (Int × Int))) × Int))) (X2 : Int × Int × (List ((Int × (Int × (Int × Int))) × Int)) → Prop) : Prop :=
  (((decide (endv < over)) = true → (inIdx (0 : Int) (((c3.getD (c).toNat ((0 : Int), ([] : LI))).2).drop (rule).toNat).length ∧ (((decide (((((c3.getD (c).toNat ((0 : Int), ([] : LI))).2).drop (rule).toNat).getD ((0 : Int)).toNat (0 : Int)) < c0)) = true → (InR (fromv + (1 : Int)) ∧ ((decide (endv = (fromv + (1 : Int)))) = true → inIdx fromv c4.length) ∧ ((((decide (endv = (fromv + (1 : Int)))) && (decide ((c4.getD (fromv).toNat (0 : Int)) = ((((c3.getD (c).toNat ((0 : Int), ([] : LI))).2).drop (rule).toNat).getD ((0 : Int)).toNat (0 : Int))))) = true → VCc100_k5 R c rule over n endv X2 (1 : Int) l40201) ∧ (((decide (endv = (fromv + (1 : Int)))) && (decide ((c4.getD (fromv).toNat (0 : Int)) = ((((c3.getD (c).toNat ((0 : Int), ([] : LI))).2).drop (rule).toNat).getD ((0 : Int)).toNat (0 : Int))))) = false → VCc100_k5 R c rule over n endv X2 (0 : Int) l40201)))) ∧ ((decide (((((c3.getD (c).toNat ((0 : Int), ([] : LI))).2).drop (rule).toNat).getD ((0 : Int)).toNat (0 : Int)) < c0)) = false → (((mget l40201 ((-1 : Int), (((((c3.getD (c).toNat ((0 : Int), ([] : LI))).2).drop (rule).toNat).getD ((0 : Int)).toNat (0 : Int)), (fromv, endv)))).isSome = true → VCc100_k5 R c rule over n endv X2 ((mget l40201 ((-1 : Int), (((((c3.getD (c).toNat ((0 : Int), ([] : LI))).2).drop (rule).toNat).getD ((0 : Int)).toNat (0 : Int)), (fromv, endv)))).getD (0 : Int)) l40201) ∧ ((mget l40201 ((-1 : Int), (((((c3.getD (c).toNat ((0 : Int), ([] : LI))).2).drop (rule).toNat).getD ((0 : Int)).toNat (0 : Int)), (fromv, endv)))).isSome = false → Loop (σ := Int × Int × (List ((Int × (Int × (Int × Int))) × Int))) (fun s X => VCc100_l3 c0 c3 R c rule fromv over n endv X2 s.1 s.2.1 s.2.2 X) ((0 : Int), (0 : Int), l40201))))))) ∧ ((decide (endv < over)) = false → VCc100_k4 c rule fromv over K n l40201))

def VCc100 (c0 : Int) (c1 : Int) (c2 : Int) (c3 : (List (Int × LI))) (c4 : LI) (R : Int → Int → Int → Int → (List ((Int × (Int × (Int × Int))) × Int)) → (Int × (List ((Int × (Int × (Int × Int))) × Int)) → Prop) → Prop) (c : Int) (rule : Int) (fromv : Int) (over : Int) (c5 : (List ((Int × (Int × (Int × Int))) × Int))) (K : Int × (List ((Int × (Int × (Int × Int))) × Int)) → Prop) : Prop :=
  (inIdx c c3.length ∧ (0 ≤ rule ∧ rule ≤ (((c3.getD (c).toNat ((0 : Int), ([] : LI))).2).length : Int)) ∧ (InR (over - fromv) ∧ (((decide ((over - fromv) < ((((c3.getD (c).toNat ((0 : Int), ([] : LI))).2).drop (rule).toNat).length : Int))) = true → K ((0 : Int), c5)) ∧ ((decide ((over - fromv) < ((((c3.getD (c).toNat ((0 : Int), ([] : LI))).2).drop (rule).toNat).length : Int))) = false → (((decide (((((c3.getD (c).toNat ((0 : Int), ([] : LI))).2).drop (rule).toNat).length : Int) = (1 : Int))) = true → (inIdx (0 : Int) (((c3.getD (c).toNat ((0 : Int), ([] : LI))).2).drop (rule).toNat).length ∧ (((decide (((((c3.getD (c).toNat ((0 : Int), ([] : LI))).2).drop (rule).toNat).getD ((0 : Int)).toNat (0 : Int)) < c0)) = true → (InR (fromv + (1 : Int)) ∧ ((decide (over = (fromv + (1 : Int)))) = true → inIdx fromv c4.length) ∧ ((((decide (over = (fromv + (1 : Int)))) && (decide ((c4.getD (fromv).toNat (0 : Int)) = ((((c3.getD (c).toNat ((0 : Int), ([] : LI))).2).drop (rule).toNat).getD ((0 : Int)).toNat (0 : Int))))) = true → VCc100_k1 K (1 : Int) c5) ∧ (((decide (over = (fromv + (1 : Int)))) && (decide ((c4.getD (fromv).toNat (0 : Int)) = ((((c3.getD (c).toNat ((0 : Int), ([] : LI))).2).drop (rule).toNat).getD ((0 : Int)).toNat (0 : Int))))) = false → VCc100_k1 K (0 : Int) c5)))) ∧ ((decide (((((c3.getD (c).toNat ((0 : Int), ([] : LI))).2).drop (rule).toNat).getD ((0 : Int)).toNat (0 : Int)) < c0)) = false → (((mget c5 ((-1 : Int), (((((c3.getD (c).toNat ((0 : Int), ([] : LI))).2).drop (rule).toNat).getD ((0 : Int)).toNat (0 : Int)), (fromv, over)))).isSome = true → VCc100_k1 K ((mget c5 ((-1 : Int), (((((c3.getD (c).toNat ((0 : Int), ([] : LI))).2).drop (rule).toNat).getD ((0 : Int)).toNat (0 : Int)), (fromv, over)))).getD (0 : Int)) c5) ∧ ((mget c5 ((-1 : Int), (((((c3.getD (c).toNat ((0 : Int), ([] : LI))).2).drop (rule).toNat).getD ((0 : Int)).toNat (0 : Int)), (fromv, over)))).isSome = false → Loop (σ := Int × Int × (List ((Int × (Int × (Int × Int))) × Int))) (fun s X => VCc100_l1 c0 c3 R c rule fromv over K s.1 s.2.1 s.2.2 X) ((0 : Int), (0 : Int), c5))))))) ∧ ((decide (((((c3.getD (c).toNat ((0 : Int), ([] : LI))).2).drop (rule).toNat).length : Int) = (1 : Int))) = false → (((mget c5 (c, (rule, (fromv, over)))).isSome = true → K (((mget c5 (c, (rule, (fromv, over)))).getD (0 : Int)), c5)) ∧ ((mget c5 (c, (rule, (fromv, over)))).isSome = false → (InR (fromv + (1 : Int)) ∧ Loop (σ := Int × Int × (List ((Int × (Int × (Int × Int))) × Int))) (fun s X => VCc100_l2 c0 c3 c4 R c rule fromv over K s.1 s.2.1 s.2.2 X) ((0 : Int), (fromv + (1 : Int)), c5))))))))))

set_option maxHeartbeats 4000000 in
theorem linkc100 (c0 : Int) (c1 : Int) (c2 : Int) (c3 : (List (Int × LI))) (c4 : LI) (R : Int → Int → Int → Int → (List ((Int × (Int × (Int × Int))) × Int)) → (Int × (List ((Int × (Int × (Int × Int))) × Int)) → Prop) → Prop) (hR : ∀ (c : Int) (rule : Int) (fromv : Int) (over : Int) (c5 : (List ((Int × (Int × (Int × Int))) × Int))) (K : Int × (List ((Int × (Int × (Int × Int))) × Int)) → Prop), R c rule fromv over c5 K → LCalls Try.prog 100 [40200, 40201] [40200] [hB 40200 [.pI c0, .pI c1, .pI c2, .p (.sl (.pr (.int .i64) (.sl (.int .i64)))) c3, .pS c4, .own 40201], (40201, [], .dict (.pr (.int .i64) t3) (.int .i64) c5)] [.c (.ptr 40200 0), .c (.pI c), .c (.pI rule), .agg [.pI fromv, .pI over]] (fun av hp' => ∃ y : Int × (List ((Int × (Int × (Int × Int))) × Int)), av = .v (.c (.pI y.1)) ∧ hp' = [hB 40200 [.pI c0, .pI c1, .pI c2, .p (.sl (.pr (.int .i64) (.sl (.int .i64)))) c3, .pS c4, .own 40201], (40201, [], .dict (.pr (.int .i64) t3) (.int .i64) y.2)] ∧ K y)) (c : Int) (rule : Int) (fromv : Int) (over : Int) (c5 : (List ((Int × (Int × (Int × Int))) × Int))) (K : Int × (List ((Int × (Int × (Int × Int))) × Int)) → Prop) (h : VCc100 c0 c1 c2 c3 c4 R c rule fromv over c5 K) : LCalls Try.prog 100 [40200, 40201] [40200] [hB 40200 [.pI c0, .pI c1, .pI c2, .p (.sl (.pr (.int .i64) (.sl (.int .i64)))) c3, .pS c4, .own 40201], (40201, [], .dict (.pr (.int .i64) t3) (.int .i64) c5)] [.c (.ptr 40200 0), .c (.pI c), .c (.pI rule), .agg [.pI fromv, .pI over]] (fun av hp' => ∃ y : Int × (List ((Int × (Int × (Int × Int))) × Int)), av = .v (.c (.pI y.1)) ∧ hp' = [hB 40200 [.pI c0, .pI c1, .pI c2, .p (.sl (.pr (.int .i64) (.sl (.int .i64)))) c3, .pS c4, .own 40201], (40201, [], .dict (.pr (.int .i64) t3) (.int .i64) y.2)] ∧ K y) := by
 refine lcalls_of_aw [40200, 40201] [40200] [.t 8] Try.func100 rfl rfl (by kernel_rfl) (by kernel_rfl) (by kernel_rfl) ?_
 refine aw_conv [] (st' := (⟨99, [e33_12, sI 1 c, sI 2 rule, sA 3 [.pI fromv, .pI over], e33_18], [e33_0 c0 c1 c2 c3 c4, e33_9 c5]⟩ : St)) (by kernel_rfl) ?_
 unfold VCc100 at h
 refine sr ?_
 refine rq 2 (ob := (Ts 2 True)) (st' := (⟨99, [e33_12, sI 1 c, sI 2 rule, sp 7 7, e33_18], [e33_25 fromv over, e33_0 c0 c1 c2 c3 c4, e33_9 c5]⟩ : St)) (by kernel_rfl) (tsI 2 trivial) ?_
 refine nsr ?_
 obtain ⟨o1, o2, h⟩ := h
 refine rq 12 (ob := (Ts 6 (inIdx c c3.length ∧ Ts 3 ((0 ≤ rule ∧ rule ≤ (((c3.getD (c).toNat ((0 : Int), ([] : LI))).2).length : Int)) ∧ Ts 1 True)))) (st' := (⟨99, [e33_12, sI 1 c, sI 2 rule, sp 7 7, e33_6 c3 c rule, e33_18], [e33_25 fromv over, e33_0 c0 c1 c2 c3 c4, e33_9 c5]⟩ : St)) (by kernel_rfl) (tsI 6 (⟨o1, tsI 3 ⟨o2, tsI 1 trivial⟩⟩)) ?_
 refine nn ?_
 refine aw_seq ?_
 refine sr ?_
 obtain ⟨o1, h⟩ := h
 refine rq 8 (ob := (Ts 4 (InR (over - fromv) ∧ Ts 3 True))) (st' := (⟨99, [e33_12, sI 1 c, sI 2 rule, sp 7 7, e33_6 c3 c rule, sB 34 (decide ((over - fromv) < ((((c3.getD (c).toNat ((0 : Int), ([] : LI))).2).drop (rule).toNat).length : Int))), e33_18], [e33_25 fromv over, e33_0 c0 c1 c2 c3 c4, e33_9 c5]⟩ : St)) (by kernel_rfl) (tsI 4 ⟨o1, tsI 3 trivial⟩) ?_
 refine nn ?_
 refine aw_cond (b := (decide ((over - fromv) < ((((c3.getD (c).toNat ((0 : Int), ([] : LI))).2).drop (rule).toNat).length : Int)))) (by kernel_rfl) (fun hb => ?_) (fun hb => ?_)
 ·have h := h.1 hb
  refine sr ?_
  refine rq 1 (ob := (Ts 1 True)) (st' := (⟨99, [sI 8 (0 : Int), e33_18], [e33_0 c0 c1 c2 c3 c4, e33_9 c5]⟩ : St)) (by kernel_rfl) (tsI 1 trivial) ?_
  refine nn ?_
  refine aw_ret ?_
  refine thenQ_r ?_
  exact lret_r (σ := Int × (List ((Int × (Int × (Int × Int))) × Int))) (A := fun y => .v (.c (.pI y.1))) (H := fun y => [hB 40200 [.pI c0, .pI c1, .pI c2, .p (.sl (.pr (.int .i64) (.sl (.int .i64)))) c3, .pS c4, .own 40201], (40201, [], .dict (.pr (.int .i64) t3) (.int .i64) y.2)]) (ob := True) ((0 : Int), c5) (by kernel_rfl) trivial rfl (by kernel_rfl) (by kernel_rfl) (by kernel_rfl) h
 ·have h := h.2 hb
  refine aw_skip ?_
  refine thenQ_n ?_
  refine aw_seq ?_
  refine sr ?_
  refine rq 3 (ob := (Ts 3 True)) (st' := (⟨99, [e33_12, sI 1 c, sI 2 rule, sp 7 7, e33_6 c3 c rule, sB 37 (decide (((((c3.getD (c).toNat ((0 : Int), ([] : LI))).2).drop (rule).toNat).length : Int) = (1 : Int))), e33_18], [e33_25 fromv over, e33_0 c0 c1 c2 c3 c4, e33_9 c5]⟩ : St)) (by kernel_rfl) (tsI 3 trivial) ?_
  refine nn ?_
  refine aw_cond (b := (decide (((((c3.getD (c).toNat ((0 : Int), ([] : LI))).2).drop (rule).toNat).length : Int) = (1 : Int)))) (by kernel_rfl) (fun hb => ?_) (fun hb => ?_)
  ·have h := h.1 hb
   refine aw_seq ?_
   refine aw_conv [.ren 7 30000] (st' := (⟨99, [e33_12, sI 1 c, sI 2 rule, sp 7 30000, e33_6 c3 c rule, sB 37 (decide (((((c3.getD (c).toNat ((0 : Int), ([] : LI))).2).drop (rule).toNat).length : Int) = (1 : Int))), e33_18], [hB 30000 [.pI fromv, .pI over], e33_0 c0 c1 c2 c3 c4, e33_9 c5]⟩ : St)) (by kernel_rfl) ?_
   refine awd_begin [40200, 40201] (by kernel_rfl) ?_
   obtain ⟨o1, h⟩ := h
   refine drq (by kernel_rfl) [0, 1, 2, 3, 4] (ob := (Ts 2 (inIdx (0 : Int) (((c3.getD (c).toNat ((0 : Int), ([] : LI))).2).drop (rule).toNat).length ∧ Ts 2 True))) (done' := [4, 3, 2, 1, 0]) (st' := (⟨99, [sp 38 40200, sI 41 ((((c3.getD (c).toNat ((0 : Int), ([] : LI))).2).drop (rule).toNat).getD ((0 : Int)).toNat (0 : Int)), sA 42 [.pI fromv, .pI over], e33_18], [e33_0 c0 c1 c2 c3 c4, e33_9 c5]⟩ : St)) (by kernel_rfl) (tsI 2 ⟨o1, tsI 2 trivial⟩) ?_
   refine awd_one (i := 5) (by kernel_rfl) ?_
   refine adop_inlr [.t 6] [.c (.ptr 40200 0), .c (.pI ((((c3.getD (c).toNat ((0 : Int), ([] : LI))).2).drop (rule).toNat).getD ((0 : Int)).toNat (0 : Int))), .agg [.pI fromv, .pI over]] [] rfl rfl rfl (by kernel_rfl) rfl (by kernel_rfl) Try.call86 (by kernel_rfl) (by kernel_rfl) Try.func86 rfl rfl (by kernel_rfl) ?_
   refine aw_conv [] (st' := (⟨87, [e33_12, e33_1 c3 c rule, sA 2 [.pI fromv, .pI over], sp 125 40200, sI 128 ((((c3.getD (c).toNat ((0 : Int), ([] : LI))).2).drop (rule).toNat).getD ((0 : Int)).toNat (0 : Int)), sA 129 [.pI fromv, .pI over], e33_13], [e33_0 c0 c1 c2 c3 c4, e33_9 c5]⟩ : St)) (by kernel_rfl) ?_
   refine withJoinR (σ := Int × (List ((Int × (Int × (Int × Int))) × Int))) (fun s => (⟨87, [sI 6 s.1, e33_13], [e33_0 c0 c1 c2 c3 c4, (40201, [], .dict (.pr (.int .i64) t3) (.int .i64) s.2)]⟩ : St)) (fun s => VCc100_k1 K s.1 s.2) (fun s h => ?_) (fun rest1 => ?_)
   ·obtain ⟨v6, l40201⟩ := s
    have h : VCc100_k1 K v6 l40201 := h
    unfold VCc100_k1 at h
    refine inlR_n (ob := True) (.v (.c (.pI v6))) (by kernel_rfl) trivial rfl ?_
    refine dpr (st' := (⟨99, [sI 43 v6, e33_18], [e33_0 c0 c1 c2 c3 c4, e33_7 l40201]⟩ : St)) (by kernel_rfl) ?_
    refine drq (by kernel_rfl) [6] (ob := (Ts 1 True)) (done' := [6, 5, 4, 3, 2, 1, 0]) (st' := (⟨99, [sI 8 v6, e33_18], [e33_0 c0 c1 c2 c3 c4, e33_7 l40201]⟩ : St)) (by kernel_rfl) (tsI 1 trivial) ?_
    refine awd_done (by kernel_rfl) ?_
    refine thenQ_n ?_
    refine aw_ret ?_
    refine thenQ_r ?_
    exact lret_r (σ := Int × (List ((Int × (Int × (Int × Int))) × Int))) (A := fun y => .v (.c (.pI y.1))) (H := fun y => [hB 40200 [.pI c0, .pI c1, .pI c2, .p (.sl (.pr (.int .i64) (.sl (.int .i64)))) c3, .pS c4, .own 40201], (40201, [], .dict (.pr (.int .i64) t3) (.int .i64) y.2)]) (ob := True) (v6, l40201) (by kernel_rfl) trivial rfl (by kernel_rfl) (by kernel_rfl) (by kernel_rfl) h
   ·refine sr ?_
    refine rq 2 (ob := (Ts 2 True)) (st' := (⟨87, [e33_12, e33_1 c3 c rule, sp 5 5, e33_13], [e33_15 fromv over, e33_0 c0 c1 c2 c3 c4, e33_9 c5]⟩ : St)) (by kernel_rfl) (tsI 2 trivial) ?_
    refine nn ?_
    refine aw_seq ?_
    refine sr ?_
    refine rq 7 (ob := (Ts 7 True)) (st' := (⟨87, [e33_12, e33_1 c3 c rule, sp 5 5, sB 19 (decide (((((c3.getD (c).toNat ((0 : Int), ([] : LI))).2).drop (rule).toNat).getD ((0 : Int)).toNat (0 : Int)) < c0)), e33_13], [e33_15 fromv over, e33_0 c0 c1 c2 c3 c4, e33_9 c5]⟩ : St)) (by kernel_rfl) (tsI 7 trivial) ?_
    refine nn ?_
    refine aw_cond (b := (decide (((((c3.getD (c).toNat ((0 : Int), ([] : LI))).2).drop (rule).toNat).getD ((0 : Int)).toNat (0 : Int)) < c0))) (by kernel_rfl) (fun hb => ?_) (fun hb => ?_)
    ·have h := h.1 hb
     refine aw_seq ?_
     refine aw_seq ?_
     refine awd_begin [] (by kernel_rfl) ?_
     obtain ⟨o1, o2, h⟩ := h
     refine drq (by kernel_rfl) [0, 1, 2, 3, 4, 5, 6, 7, 8, 9, 10, 11, 12, 13, 14, 15, 16, 17] (ob := (Ts 4 (InR (fromv + (1 : Int)) ∧ Ts 2 (Ti 6 ((decide (over = (fromv + (1 : Int)))) = true → True) (((decide (over = (fromv + (1 : Int)))) = true → inIdx fromv c4.length) ∧ Ti 3 ((decide (over = (fromv + (1 : Int)))) = true → True) (Ts 1 True)))))) (done' := [17, 16, 15, 14, 13, 12, 11, 10, 9, 8, 7, 6, 5, 4, 3, 2, 1, 0]) (st' := (⟨87, [sB 37 ((decide (over = (fromv + (1 : Int)))) && (decide ((c4.getD (fromv).toNat (0 : Int)) = ((((c3.getD (c).toNat ((0 : Int), ([] : LI))).2).drop (rule).toNat).getD ((0 : Int)).toNat (0 : Int))))), e33_13], [e33_0 c0 c1 c2 c3 c4, e33_9 c5]⟩ : St)) (by kernel_rfl) (tsI 4 (⟨o1, tsI 2 (tiI 6 (fun _ => trivial) ⟨o2, tiI 3 (fun _ => trivial) (tsI 1 trivial)⟩)⟩)) ?_
     refine awd_done (by kernel_rfl) ?_
     refine thenQ_n ?_
     refine aw_cond (b := ((decide (over = (fromv + (1 : Int)))) && (decide ((c4.getD (fromv).toNat (0 : Int)) = ((((c3.getD (c).toNat ((0 : Int), ([] : LI))).2).drop (rule).toNat).getD ((0 : Int)).toNat (0 : Int)))))) (by kernel_rfl) (fun hb => ?_) (fun hb => ?_)
     ·have h := h.1 hb
      refine sr ?_
      refine rq 1 (ob := (Ts 1 True)) (st' := (⟨87, [sI 6 (1 : Int), e33_13], [e33_0 c0 c1 c2 c3 c4, e33_9 c5]⟩ : St)) (by kernel_rfl) (tsI 1 trivial) ?_
      refine nn ?_
      refine aw_ret ?_
      refine thenQ_r ?_
      refine thenQ_r ?_
      exact rest1 ((1 : Int), c5) h
     ·have h := h.2 hb
      refine aw_skip ?_
      refine thenQ_n ?_
      refine sr ?_
      refine rq 1 (ob := (Ts 1 True)) (st' := (⟨87, [sI 6 (0 : Int), e33_13], [e33_0 c0 c1 c2 c3 c4, e33_9 c5]⟩ : St)) (by kernel_rfl) (tsI 1 trivial) ?_
      refine nn ?_
      refine aw_ret ?_
      refine thenQ_r ?_
      exact rest1 ((0 : Int), c5) h
    ·have h := h.2 hb
     refine aw_skip ?_
     refine thenQ_n ?_
     refine sr ?_
     refine rq 5 (ob := (Ts 5 True)) (st' := (⟨87, [e33_12, e33_1 c3 c rule, sp 5 5, sp 7 7, e33_13], [e33_15 fromv over, e33_2 c3 c rule fromv over, e33_0 c0 c1 c2 c3 c4, e33_9 c5]⟩ : St)) (by kernel_rfl) (tsI 5 trivial) ?_
     refine nn ?_
     refine aw_seq ?_
     refine aw_seq ?_
     refine awd_begin [] (by kernel_rfl) ?_
     refine drq (by kernel_rfl) [0, 1, 2, 3, 4, 5, 6, 7, 8, 9, 10] (ob := (Ts 11 True)) (done' := [10, 9, 8, 7, 6, 5, 4, 3, 2, 1, 0]) (st' := (⟨87, [e33_12, e33_1 c3 c rule, sp 5 5, sp 7 7, sI 8 ((mget c5 ((-1 : Int), (((((c3.getD (c).toNat ((0 : Int), ([] : LI))).2).drop (rule).toNat).getD ((0 : Int)).toNat (0 : Int)), (fromv, over)))).getD (0 : Int)), sB 9 ((mget c5 ((-1 : Int), (((((c3.getD (c).toNat ((0 : Int), ([] : LI))).2).drop (rule).toNat).getD ((0 : Int)).toNat (0 : Int)), (fromv, over)))).isSome), e33_13], [e33_15 fromv over, e33_2 c3 c rule fromv over, e33_0 c0 c1 c2 c3 c4, e33_9 c5]⟩ : St)) (by kernel_rfl) (tsI 11 trivial) ?_
     refine awd_done (by kernel_rfl) ?_
     refine thenQ_n ?_
     refine sr ?_
     refine rq 1 (ob := (Ts 1 True)) (st' := (⟨87, [e33_12, e33_1 c3 c rule, sp 5 5, sp 7 7, sI 8 ((mget c5 ((-1 : Int), (((((c3.getD (c).toNat ((0 : Int), ([] : LI))).2).drop (rule).toNat).getD ((0 : Int)).toNat (0 : Int)), (fromv, over)))).getD (0 : Int)), sB 50 ((mget c5 ((-1 : Int), (((((c3.getD (c).toNat ((0 : Int), ([] : LI))).2).drop (rule).toNat).getD ((0 : Int)).toNat (0 : Int)), (fromv, over)))).isSome), e33_13], [e33_15 fromv over, e33_2 c3 c rule fromv over, e33_0 c0 c1 c2 c3 c4, e33_9 c5]⟩ : St)) (by kernel_rfl) (tsI 1 trivial) ?_
     refine nn ?_
     refine aw_cond (b := (mget c5 ((-1 : Int), (((((c3.getD (c).toNat ((0 : Int), ([] : LI))).2).drop (rule).toNat).getD ((0 : Int)).toNat (0 : Int)), (fromv, over)))).isSome) (by kernel_rfl) (fun hb => ?_) (fun hb => ?_)
     ·have h := h.1 hb
      refine sr ?_
      refine rq 2 (ob := (Ts 2 True)) (st' := (⟨87, [sI 6 ((mget c5 ((-1 : Int), (((((c3.getD (c).toNat ((0 : Int), ([] : LI))).2).drop (rule).toNat).getD ((0 : Int)).toNat (0 : Int)), (fromv, over)))).getD (0 : Int)), e33_13], [e33_0 c0 c1 c2 c3 c4, e33_9 c5]⟩ : St)) (by kernel_rfl) (tsI 2 trivial) ?_
      refine nn ?_
      refine aw_ret ?_
      refine thenQ_r ?_
      exact rest1 (((mget c5 ((-1 : Int), (((((c3.getD (c).toNat ((0 : Int), ([] : LI))).2).drop (rule).toNat).getD ((0 : Int)).toNat (0 : Int)), (fromv, over)))).getD (0 : Int)), c5) h
     ·have h := h.2 hb
      refine aw_skip ?_
      refine thenQ_n ?_
      refine sr ?_
      refine rq 1 (ob := (Ts 1 True)) (st' := (⟨87, [e33_12, e33_1 c3 c rule, sp 5 5, sp 7 7, sI 10 (0 : Int), e33_13], [e33_15 fromv over, e33_2 c3 c rule fromv over, e33_0 c0 c1 c2 c3 c4, e33_9 c5]⟩ : St)) (by kernel_rfl) (tsI 1 trivial) ?_
      refine nn ?_
      refine aw_seq ?_
      refine sr ?_
      refine rq 7 (ob := (Ts 7 True)) (st' := (⟨87, [e33_12, e33_1 c3 c rule, sp 5 5, sp 7 7, sI 10 (0 : Int), e33_8 c3, e33_14 c3, sI 58 (0 : Int), e33_13], [e33_15 fromv over, e33_2 c3 c rule fromv over, e33_0 c0 c1 c2 c3 c4, e33_9 c5]⟩ : St)) (by kernel_rfl) (tsI 7 trivial) ?_
      refine nn ?_
      refine withJoin (σ := Int × (List ((Int × (Int × (Int × Int))) × Int))) (fun s => (⟨87, [e33_12, sp 7 7, sI 10 s.1, e33_13], [e33_2 c3 c rule fromv over, e33_0 c0 c1 c2 c3 c4, (40201, [], .dict (.pr (.int .i64) t3) (.int .i64) s.2)]⟩ : St)) (fun s => VCc100_k2 c3 c rule fromv over K s.1 s.2) (fun s h => ?_) (fun rest2 => ?_)
      ·obtain ⟨n, l40201⟩ := s
       have h : VCc100_k2 c3 c rule fromv over K n l40201 := h
       unfold VCc100_k2 at h
       refine thenQ_n ?_
       refine aw_seq ?_
       refine awd_begin [40201] (by kernel_rfl) ?_
       refine drq (by kernel_rfl) [0, 1, 2, 3, 4, 5] (ob := (Ts 6 True)) (done' := [5, 4, 3, 2, 1, 0]) (st' := (⟨87, [sI 10 n, s1 83 (.own 40201), sA 84 [.pI (-1 : Int), .pI ((((c3.getD (c).toNat ((0 : Int), ([] : LI))).2).drop (rule).toNat).getD ((0 : Int)).toNat (0 : Int)), .pI fromv, .pI over], sI 85 n, e33_13], [e33_0 c0 c1 c2 c3 c4, e33_7 l40201]⟩ : St)) (by kernel_rfl) (tsI 6 trivial) ?_
       refine awd_one (i := 6) (by kernel_rfl) ?_
       refine dsq (ob := True) (st' := (⟨87, [sI 10 n, e33_13], [e33_0 c0 c1 c2 c3 c4, (40201, [], .dict (.pr (.int .i64) t3) (.int .i64) (mset l40201 ((-1 : Int), (((((c3.getD (c).toNat ((0 : Int), ([] : LI))).2).drop (rule).toNat).getD ((0 : Int)).toNat (0 : Int)), (fromv, over))) n))]⟩ : St)) rfl (by kernel_rfl) trivial ?_
       refine awd_done (by kernel_rfl) ?_
       refine thenQ_n ?_
       refine sr ?_
       refine rq 2 (ob := (Ts 2 True)) (st' := (⟨87, [sI 6 n, e33_13], [e33_0 c0 c1 c2 c3 c4, (40201, [], .dict (.pr (.int .i64) t3) (.int .i64) (mset l40201 ((-1 : Int), (((((c3.getD (c).toNat ((0 : Int), ([] : LI))).2).drop (rule).toNat).getD ((0 : Int)).toNat (0 : Int)), (fromv, over))) n))]⟩ : St)) (by kernel_rfl) (tsI 2 trivial) ?_
       refine nn ?_
       refine aw_ret ?_
       exact rest1 (n, (mset l40201 ((-1 : Int), (((((c3.getD (c).toNat ((0 : Int), ([] : LI))).2).drop (rule).toNat).getD ((0 : Int)).toNat (0 : Int)), (fromv, over))) n)) h
      ·refine aw_block ?_
       refine aw_loop (σ := Int × Int × (List ((Int × (Int × (Int × Int))) × Int))) (fun s => (⟨87, [e33_12, e33_1 c3 c rule, sp 5 5, sp 7 7, sI 10 s.1, e33_8 c3, e33_14 c3, sI 58 s.2.1, e33_13], [e33_15 fromv over, e33_2 c3 c rule fromv over, e33_0 c0 c1 c2 c3 c4, (40201, [], .dict (.pr (.int .i64) t3) (.int .i64) s.2.2)]⟩ : St)) (fun s X => VCc100_l1 c0 c3 R c rule fromv over K s.1 s.2.1 s.2.2 X) (s0 := ((0 : Int), (0 : Int), c5)) (fun s X1 h => ?_) h
       obtain ⟨n, v58, l40201⟩ := s
       have h : VCc100_l1 c0 c3 R c rule fromv over K n v58 l40201 X1 := h
       unfold VCc100_l1 at h
       refine sr ?_
       refine rq 1 (ob := (Ts 1 True)) (st' := (⟨87, [e33_12, e33_1 c3 c rule, sp 5 5, sp 7 7, sI 10 n, e33_8 c3, e33_14 c3, sI 58 v58, sB 59 (decide (v58 < (c3.length : Int))), e33_13], [e33_15 fromv over, e33_2 c3 c rule fromv over, e33_0 c0 c1 c2 c3 c4, e33_7 l40201]⟩ : St)) (by kernel_rfl) (tsI 1 trivial) ?_
       refine nn ?_
       refine aw_seq ?_
       refine aw_cond (b := (decide (v58 < (c3.length : Int)))) (by kernel_rfl) (fun hb => ?_) (fun hb => ?_)
       ·have h := h.1 hb
        refine aw_skip ?_
        refine thenQ_n ?_
        refine aw_seq ?_
        refine aw_block ?_
        refine sr ?_
        obtain ⟨o1, h⟩ := h
        refine rq 6 (ob := (Ts 1 (inIdx v58 c3.length ∧ Ts 4 True))) (st' := (⟨87, [e33_12, e33_1 c3 c rule, sp 5 5, sp 7 7, sI 10 n, sI 11 v58, sp 12 12, e33_8 c3, e33_14 c3, sI 58 v58, e33_13], [e33_15 fromv over, e33_2 c3 c rule fromv over, e33_27 c3 v58, e33_0 c0 c1 c2 c3 c4, e33_7 l40201]⟩ : St)) (by kernel_rfl) (tsI 1 ⟨o1, tsI 4 trivial⟩) ?_
        refine nn ?_
        refine aw_seq ?_
        refine awd_begin [] (by kernel_rfl) ?_
        obtain ⟨o1, h⟩ := h
        refine drq (by kernel_rfl) [0, 1, 2, 3, 4, 5, 6, 7, 8, 9] (ob := (Ts 8 (InR (((((c3.getD (c).toNat ((0 : Int), ([] : LI))).2).drop (rule).toNat).getD ((0 : Int)).toNat (0 : Int)) - c0) ∧ Ts 1 True))) (done' := [9, 8, 7, 6, 5, 4, 3, 2, 1, 0]) (st' := (⟨87, [e33_12, e33_1 c3 c rule, sp 5 5, sp 7 7, sI 10 n, sI 11 v58, e33_8 c3, e33_14 c3, sI 58 v58, e33_20 c3 v58 c rule c0, e33_13], [e33_15 fromv over, e33_2 c3 c rule fromv over, e33_0 c0 c1 c2 c3 c4, e33_7 l40201]⟩ : St)) (by kernel_rfl) (tsI 8 ⟨o1, tsI 1 trivial⟩) ?_
        refine awd_done (by kernel_rfl) ?_
        refine thenQ_n ?_
        refine withJoin (σ := Int × (List ((Int × (Int × (Int × Int))) × Int))) (fun s => (⟨87, [e33_12, e33_1 c3 c rule, sp 5 5, sp 7 7, sI 10 s.1, e33_8 c3, e33_14 c3, sI 58 v58, e33_13], [e33_15 fromv over, e33_2 c3 c rule fromv over, e33_0 c0 c1 c2 c3 c4, (40201, [], .dict (.pr (.int .i64) t3) (.int .i64) s.2)]⟩ : St)) (fun s => VCc100_k3 v58 X1 s.1 s.2) (fun s h => ?_) (fun rest3 => ?_)
        ·obtain ⟨n2, l402012⟩ := s
         have h : VCc100_k3 v58 X1 n2 l402012 := h
         unfold VCc100_k3 at h
         refine blockQ_n ?_
         refine thenQ_n ?_
         refine aw_region ?_
         obtain ⟨o1, h⟩ := h
         refine rq 2 (ob := (InR (v58 + (1 : Int)) ∧ Ts 1 True)) (st' := (⟨87, [e33_12, e33_1 c3 c rule, sp 5 5, sp 7 7, sI 10 n2, e33_8 c3, e33_14 c3, sI 58 (v58 + (1 : Int)), e33_13], [e33_15 fromv over, e33_2 c3 c rule fromv over, e33_0 c0 c1 c2 c3 c4, e33_11 l402012]⟩ : St)) (by kernel_rfl) (⟨o1, tsI 1 trivial⟩) ?_
         refine awl_nil ?_
         exact thenQ_n ⟨(n2, (v58 + (1 : Int)), l402012), rfl, h⟩
        ·refine aw_cond (b := (decide ((c3.getD (v58).toNat ((0 : Int), ([] : LI))).1 = (((((c3.getD (c).toNat ((0 : Int), ([] : LI))).2).drop (rule).toNat).getD ((0 : Int)).toNat (0 : Int)) - c0)))) (by kernel_rfl) (fun hb => ?_) (fun hb => ?_)
         ·have h := h.1 hb
          refine aw_region ?_
          refine rq 4 (ob := (Ts 4 True)) (st' := (⟨87, [e33_12, e33_1 c3 c rule, sp 5 5, sp 7 7, e33_8 c3, e33_14 c3, sI 58 v58, sI 73 n, sp 74 40200, sI 75 v58, sA 76 [.pI fromv, .pI over], e33_13], [e33_15 fromv over, e33_2 c3 c rule fromv over, e33_0 c0 c1 c2 c3 c4, e33_7 l40201]⟩ : St)) (by kernel_rfl) (tsI 4 trivial) ?_
          refine awl_lcall (σ := Int × (List ((Int × (Int × (Int × Int))) × Int))) [40200, 40201] [40200] [.c (.ptr 40200 0), .c (.pI v58), .c (.pI (0 : Int)), .agg [.pI fromv, .pI over]] [] (fun ret77v => .v (.c (.pI ret77v.1))) (fun ret77v => [hB 40200 [.pI c0, .pI c1, .pI c2, .p (.sl (.pr (.int .i64) (.sl (.int .i64)))) c3, .pS c4, .own 40201], (40201, [], .dict (.pr (.int .i64) t3) (.int .i64) ret77v.2)]) (fun (ret77v : Int × (List ((Int × (Int × (Int × Int))) × Int))) => VC109 n ret77v.1 (fun (ret78v : Int) => VCc100_k3 v58 X1 ret78v ret77v.2)) [hB 40200 [.pI c0, .pI c1, .pI c2, .p (.sl (.pr (.int .i64) (.sl (.int .i64)))) c3, .pS c4, .own 40201], (40201, [], .dict (.pr (.int .i64) t3) (.int .i64) l40201)] (fun ret77v => (⟨87, [sI 77 ret77v.1, e33_12, e33_1 c3 c rule, sp 5 5, sp 7 7, e33_8 c3, e33_14 c3, sI 58 v58, sI 73 n, sp 74 40200, sI 75 v58, sA 76 [.pI fromv, .pI over], e33_13], [e33_0 c0 c1 c2 c3 c4, e33_17 ret77v, e33_15 fromv over, e33_2 c3 c rule fromv over]⟩ : St)) rfl rfl (by kernel_rfl) rfl (by kernel_rfl) Try.call100 (by kernel_rfl) (by kernel_rfl) (by kernel_rfl) (fun _ _ => rfl) (fun _ => by kernel_rfl) (hR v58 (0 : Int) fromv over l40201 _ h) (fun ret77v h => ?_)
          refine lpr (st' := (⟨87, [e33_12, e33_1 c3 c rule, sp 5 5, sp 7 7, e33_8 c3, e33_14 c3, sI 58 v58, sI 73 n, sI 77 ret77v.1, e33_13], [e33_15 fromv over, e33_2 c3 c rule fromv over, e33_0 c0 c1 c2 c3 c4, e33_17 ret77v]⟩ : St)) (by kernel_rfl) ?_
          refine lcq (d := 78) [.d (.int .i64), .d (.int .i64)] (fun ret78v => (⟨87, [e33_12, e33_1 c3 c rule, sp 5 5, sp 7 7, e33_8 c3, e33_14 c3, sI 58 v58, sI 78 ret78v, e33_13], [e33_15 fromv over, e33_2 c3 c rule fromv over, e33_0 c0 c1 c2 c3 c4, e33_17 ret77v]⟩ : St)) (by kernel_rfl) Try.call109 (fun _ => by kernel_rfl) (link109 n ret77v.1 _ h) (fun ret78v h => ?_)
          refine rq 1 (ob := (Ts 1 True)) (st' := (⟨87, [e33_12, e33_1 c3 c rule, sp 5 5, sp 7 7, sI 10 ret78v, e33_8 c3, e33_14 c3, sI 58 v58, e33_13], [e33_15 fromv over, e33_2 c3 c rule fromv over, e33_0 c0 c1 c2 c3 c4, e33_17 ret77v]⟩ : St)) (by kernel_rfl) (tsI 1 trivial) ?_
          refine awl_nil ?_
          exact rest3 (ret78v, ret77v.2) h
         ·have h := h.2 hb
          refine cpr (st' := (⟨87, [e33_12, e33_1 c3 c rule, sp 5 5, sp 7 7, sI 10 n, e33_8 c3, e33_14 c3, sI 58 v58, e33_13], [e33_15 fromv over, e33_2 c3 c rule fromv over, e33_0 c0 c1 c2 c3 c4, e33_7 l40201]⟩ : St)) (by kernel_rfl) ?_
          refine aw_skip ?_
          exact rest3 (n, l40201) h
       ·have h := h.2 hb
        refine cpr (st' := (⟨87, [e33_12, sp 7 7, sI 10 n, e33_13], [e33_2 c3 c rule fromv over, e33_0 c0 c1 c2 c3 c4, e33_7 l40201]⟩ : St)) (by kernel_rfl) ?_
        refine aw_exit ?_
        refine thenQ_x ?_
        refine thenQ_x ?_
        refine blockQ_hit ?_
        exact rest2 (n, l40201) h
  ·have h := h.2 hb
   refine aw_skip ?_
   refine thenQ_n ?_
   refine sr ?_
   refine rq 6 (ob := (Ts 6 True)) (st' := (⟨99, [e33_12, sI 1 c, sI 2 rule, sp 7 7, e33_6 c3 c rule, sp 10 10, e33_18], [e33_25 fromv over, e33_19 c rule fromv over, e33_0 c0 c1 c2 c3 c4, e33_9 c5]⟩ : St)) (by kernel_rfl) (tsI 6 trivial) ?_
   refine nn ?_
   refine aw_seq ?_
   refine aw_seq ?_
   refine awd_begin [] (by kernel_rfl) ?_
   refine drq (by kernel_rfl) [0, 1, 2, 3, 4, 5, 6, 7, 8, 9, 10] (ob := (Ts 11 True)) (done' := [10, 9, 8, 7, 6, 5, 4, 3, 2, 1, 0]) (st' := (⟨99, [e33_12, sI 1 c, sI 2 rule, sp 7 7, e33_6 c3 c rule, sp 10 10, sI 11 ((mget c5 (c, (rule, (fromv, over)))).getD (0 : Int)), sB 12 ((mget c5 (c, (rule, (fromv, over)))).isSome), e33_18], [e33_25 fromv over, e33_19 c rule fromv over, e33_0 c0 c1 c2 c3 c4, e33_9 c5]⟩ : St)) (by kernel_rfl) (tsI 11 trivial) ?_
   refine awd_done (by kernel_rfl) ?_
   refine thenQ_n ?_
   refine sr ?_
   refine rq 1 (ob := (Ts 1 True)) (st' := (⟨99, [e33_12, sI 1 c, sI 2 rule, sp 7 7, e33_6 c3 c rule, sp 10 10, sI 11 ((mget c5 (c, (rule, (fromv, over)))).getD (0 : Int)), sB 57 ((mget c5 (c, (rule, (fromv, over)))).isSome), e33_18], [e33_25 fromv over, e33_19 c rule fromv over, e33_0 c0 c1 c2 c3 c4, e33_9 c5]⟩ : St)) (by kernel_rfl) (tsI 1 trivial) ?_
   refine nn ?_
   refine aw_cond (b := (mget c5 (c, (rule, (fromv, over)))).isSome) (by kernel_rfl) (fun hb => ?_) (fun hb => ?_)
   ·have h := h.1 hb
    refine sr ?_
    refine rq 2 (ob := (Ts 2 True)) (st' := (⟨99, [sI 8 ((mget c5 (c, (rule, (fromv, over)))).getD (0 : Int)), e33_18], [e33_0 c0 c1 c2 c3 c4, e33_9 c5]⟩ : St)) (by kernel_rfl) (tsI 2 trivial) ?_
    refine nn ?_
    refine aw_ret ?_
    refine thenQ_r ?_
    exact lret_r (σ := Int × (List ((Int × (Int × (Int × Int))) × Int))) (A := fun y => .v (.c (.pI y.1))) (H := fun y => [hB 40200 [.pI c0, .pI c1, .pI c2, .p (.sl (.pr (.int .i64) (.sl (.int .i64)))) c3, .pS c4, .own 40201], (40201, [], .dict (.pr (.int .i64) t3) (.int .i64) y.2)]) (ob := True) (((mget c5 (c, (rule, (fromv, over)))).getD (0 : Int)), c5) (by kernel_rfl) trivial rfl (by kernel_rfl) (by kernel_rfl) (by kernel_rfl) h
   ·have h := h.2 hb
    refine aw_skip ?_
    refine thenQ_n ?_
    refine sr ?_
    refine rq 1 (ob := (Ts 1 True)) (st' := (⟨99, [e33_12, sI 1 c, sI 2 rule, sp 7 7, e33_6 c3 c rule, sp 10 10, sI 13 (0 : Int), e33_18], [e33_25 fromv over, e33_19 c rule fromv over, e33_0 c0 c1 c2 c3 c4, e33_9 c5]⟩ : St)) (by kernel_rfl) (tsI 1 trivial) ?_
    refine nn ?_
    refine aw_seq ?_
    refine sr ?_
    obtain ⟨o1, h⟩ := h
    refine rq 4 (ob := (Ts 2 (InR (fromv + (1 : Int)) ∧ Ts 1 True))) (st' := (⟨99, [e33_12, sI 1 c, sI 2 rule, sp 7 7, e33_6 c3 c rule, sp 10 10, sI 13 (0 : Int), sI 14 (fromv + (1 : Int)), e33_18], [e33_25 fromv over, e33_19 c rule fromv over, e33_0 c0 c1 c2 c3 c4, e33_9 c5]⟩ : St)) (by kernel_rfl) (tsI 2 ⟨o1, tsI 1 trivial⟩) ?_
    refine nn ?_
    refine withJoin (σ := Int × (List ((Int × (Int × (Int × Int))) × Int))) (fun s => (⟨99, [e33_12, sp 10 10, sI 13 s.1, e33_18], [e33_19 c rule fromv over, e33_0 c0 c1 c2 c3 c4, (40201, [], .dict (.pr (.int .i64) t3) (.int .i64) s.2)]⟩ : St)) (fun s => VCc100_k4 c rule fromv over K s.1 s.2) (fun s h => ?_) (fun rest4 => ?_)
    ·obtain ⟨n, l40201⟩ := s
     have h : VCc100_k4 c rule fromv over K n l40201 := h
     unfold VCc100_k4 at h
     refine thenQ_n ?_
     refine aw_seq ?_
     refine awd_begin [40201] (by kernel_rfl) ?_
     refine drq (by kernel_rfl) [0, 1, 2, 3, 4, 5] (ob := (Ts 6 True)) (done' := [5, 4, 3, 2, 1, 0]) (st' := (⟨99, [sI 13 n, s1 95 (.own 40201), sA 96 [.pI c, .pI rule, .pI fromv, .pI over], sI 97 n, e33_18], [e33_0 c0 c1 c2 c3 c4, e33_7 l40201]⟩ : St)) (by kernel_rfl) (tsI 6 trivial) ?_
     refine awd_one (i := 6) (by kernel_rfl) ?_
     refine dsq (ob := True) (st' := (⟨99, [sI 13 n, e33_18], [e33_0 c0 c1 c2 c3 c4, (40201, [], .dict (.pr (.int .i64) t3) (.int .i64) (mset l40201 (c, (rule, (fromv, over))) n))]⟩ : St)) rfl (by kernel_rfl) trivial ?_
     refine awd_done (by kernel_rfl) ?_
     refine thenQ_n ?_
     refine sr ?_
     refine rq 2 (ob := (Ts 2 True)) (st' := (⟨99, [sI 8 n, e33_18], [e33_0 c0 c1 c2 c3 c4, (40201, [], .dict (.pr (.int .i64) t3) (.int .i64) (mset l40201 (c, (rule, (fromv, over))) n))]⟩ : St)) (by kernel_rfl) (tsI 2 trivial) ?_
     refine nn ?_
     refine aw_ret ?_
     exact lret_r (σ := Int × (List ((Int × (Int × (Int × Int))) × Int))) (A := fun y => .v (.c (.pI y.1))) (H := fun y => [hB 40200 [.pI c0, .pI c1, .pI c2, .p (.sl (.pr (.int .i64) (.sl (.int .i64)))) c3, .pS c4, .own 40201], (40201, [], .dict (.pr (.int .i64) t3) (.int .i64) y.2)]) (ob := True) (n, (mset l40201 (c, (rule, (fromv, over))) n)) (by kernel_rfl) trivial rfl (by kernel_rfl) (by kernel_rfl) (by kernel_rfl) h
    ·refine aw_block ?_
     refine aw_loop (σ := Int × Int × (List ((Int × (Int × (Int × Int))) × Int))) (fun s => (⟨99, [e33_12, sI 1 c, sI 2 rule, sp 7 7, e33_6 c3 c rule, sp 10 10, sI 13 s.1, sI 14 s.2.1, e33_18], [e33_25 fromv over, e33_19 c rule fromv over, e33_0 c0 c1 c2 c3 c4, (40201, [], .dict (.pr (.int .i64) t3) (.int .i64) s.2.2)]⟩ : St)) (fun s X => VCc100_l2 c0 c3 c4 R c rule fromv over K s.1 s.2.1 s.2.2 X) (s0 := ((0 : Int), (fromv + (1 : Int)), c5)) (fun s X2 h => ?_) h
     obtain ⟨n, endv, l40201⟩ := s
     have h : VCc100_l2 c0 c3 c4 R c rule fromv over K n endv l40201 X2 := h
     unfold VCc100_l2 at h
     refine aw_seq ?_
     refine sr ?_
     refine rq 4 (ob := (Ts 4 True)) (st' := (⟨99, [e33_12, sI 1 c, sI 2 rule, sp 7 7, e33_6 c3 c rule, sp 10 10, sI 13 n, sI 14 endv, sB 65 (decide (endv < over)), e33_18], [e33_25 fromv over, e33_19 c rule fromv over, e33_0 c0 c1 c2 c3 c4, e33_7 l40201]⟩ : St)) (by kernel_rfl) (tsI 4 trivial) ?_
     refine nn ?_
     refine aw_cond (b := (decide (endv < over))) (by kernel_rfl) (fun hb => ?_) (fun hb => ?_)
     ·have h := h.1 hb
      refine aw_skip ?_
      refine thenQ_n ?_
      refine aw_seq ?_
      refine aw_block ?_
      refine aw_seq ?_
      refine aw_conv [.ren 7 30100, .ren 10 30101] (st' := (⟨99, [e33_12, sI 1 c, sI 2 rule, e33_29, e33_6 c3 c rule, e33_28, sI 13 n, sI 14 endv, sB 65 (decide (endv < over)), e33_18], [e33_10 fromv over, e33_5 c rule fromv over, e33_0 c0 c1 c2 c3 c4, e33_7 l40201]⟩ : St)) (by kernel_rfl) ?_
      refine awd_begin [30100, 30101, 40200, 40201] (by kernel_rfl) ?_
      obtain ⟨o1, h⟩ := h
      refine drq (by kernel_rfl) [0, 1, 2, 3, 4, 6] (ob := (Ts 2 (inIdx (0 : Int) (((c3.getD (c).toNat ((0 : Int), ([] : LI))).2).drop (rule).toNat).length ∧ Ts 3 True))) (done' := [6, 4, 3, 2, 1, 0]) (st' := (⟨99, [e33_12, sI 1 c, sI 2 rule, e33_29, e33_6 c3 c rule, e33_28, sI 13 n, sI 14 endv, sp 68 40200, e33_24 c3 c rule, sp 72 30100, sI 74 endv, e33_18], [e33_10 fromv over, e33_5 c rule fromv over, e33_0 c0 c1 c2 c3 c4, e33_7 l40201]⟩ : St)) (by kernel_rfl) (tsI 2 ⟨o1, tsI 3 trivial⟩) ?_
      refine awd_one (i := 5) (by kernel_rfl) ?_
      refine dsq (ob := True) (st' := (⟨99, [e33_12, sI 1 c, sI 2 rule, e33_29, e33_6 c3 c rule, e33_28, sI 13 n, sI 14 endv, sp 68 40200, e33_24 c3 c rule, sI 73 fromv, sI 74 endv, e33_18], [e33_10 fromv over, e33_5 c rule fromv over, e33_0 c0 c1 c2 c3 c4, e33_7 l40201]⟩ : St)) rfl (by kernel_rfl) trivial ?_
      refine drq (by kernel_rfl) [7] (ob := (Ts 1 True)) (done' := [7, 5, 6, 4, 3, 2, 1, 0]) (st' := (⟨99, [e33_12, sI 1 c, sI 2 rule, e33_29, e33_6 c3 c rule, e33_28, sI 13 n, sI 14 endv, sp 68 40200, e33_24 c3 c rule, sA 75 [.pI fromv, .pI endv], e33_18], [e33_10 fromv over, e33_5 c rule fromv over, e33_0 c0 c1 c2 c3 c4, e33_7 l40201]⟩ : St)) (by kernel_rfl) (tsI 1 trivial) ?_
      refine awd_one (i := 8) (by kernel_rfl) ?_
      refine adop_inlr [.t 6] [.c (.ptr 40200 0), .c (.pI ((((c3.getD (c).toNat ((0 : Int), ([] : LI))).2).drop (rule).toNat).getD ((0 : Int)).toNat (0 : Int))), .agg [.pI fromv, .pI endv]] [] rfl rfl rfl (by kernel_rfl) rfl (by kernel_rfl) Try.call86 (by kernel_rfl) (by kernel_rfl) Try.func86 rfl rfl (by kernel_rfl) ?_
      refine aw_conv [] (st' := (⟨87, [e33_12, e33_1 c3 c rule, sA 2 [.pI fromv, .pI endv], e33_21, sI 88 c, sI 89 rule, e33_22, e33_4 c3 c rule, e33_23, sI 100 n, sI 101 endv, sp 155 40200, sI 158 ((((c3.getD (c).toNat ((0 : Int), ([] : LI))).2).drop (rule).toNat).getD ((0 : Int)).toNat (0 : Int)), sA 162 [.pI fromv, .pI endv], e33_13], [e33_10 fromv over, e33_5 c rule fromv over, e33_0 c0 c1 c2 c3 c4, e33_7 l40201]⟩ : St)) (by kernel_rfl) ?_
      refine withJoinR (σ := Int × (List ((Int × (Int × (Int × Int))) × Int))) (fun s => (⟨87, [sI 6 s.1, e33_21, sI 88 c, sI 89 rule, e33_22, e33_4 c3 c rule, e33_23, sI 100 n, sI 101 endv, e33_13], [e33_10 fromv over, e33_5 c rule fromv over, e33_0 c0 c1 c2 c3 c4, (40201, [], .dict (.pr (.int .i64) t3) (.int .i64) s.2)]⟩ : St)) (fun s => VCc100_k5 R c rule over n endv X2 s.1 s.2) (fun s h => ?_) (fun rest6 => ?_)
      ·obtain ⟨v6, l402012⟩ := s
       have h : VCc100_k5 R c rule over n endv X2 v6 l402012 := h
       unfold VCc100_k5 at h
       refine inlR_n (ob := True) (.v (.c (.pI v6))) (by kernel_rfl) trivial rfl ?_
       refine dpr (st' := (⟨99, [e33_12, sI 1 c, sI 2 rule, e33_29, e33_6 c3 c rule, e33_28, sI 13 n, sI 14 endv, sI 76 v6, e33_18], [e33_10 fromv over, e33_5 c rule fromv over, e33_0 c0 c1 c2 c3 c4, e33_11 l402012]⟩ : St)) (by kernel_rfl) ?_
       refine drq (by kernel_rfl) [9] (ob := (Ts 1 True)) (done' := [9, 8, 7, 5, 6, 4, 3, 2, 1, 0]) (st' := (⟨99, [e33_12, sI 1 c, sI 2 rule, e33_29, e33_6 c3 c rule, e33_28, sI 13 n, sI 14 endv, sI 15 v6, e33_18], [e33_10 fromv over, e33_5 c rule fromv over, e33_0 c0 c1 c2 c3 c4, e33_11 l402012]⟩ : St)) (by kernel_rfl) (tsI 1 trivial) ?_
       refine awd_done (by kernel_rfl) ?_
       refine thenQ_n ?_
       refine sr ?_
       refine rq 2 (ob := (Ts 2 True)) (st' := (⟨99, [e33_12, sI 1 c, sI 2 rule, e33_29, e33_6 c3 c rule, e33_28, sI 13 n, sI 14 endv, sI 15 v6, sB 78 (decide ((0 : Int) < v6)), e33_18], [e33_10 fromv over, e33_5 c rule fromv over, e33_0 c0 c1 c2 c3 c4, e33_11 l402012]⟩ : St)) (by kernel_rfl) (tsI 2 trivial) ?_
       refine nn ?_
       refine withJoin (σ := Int × (List ((Int × (Int × (Int × Int))) × Int))) (fun s => (⟨99, [e33_12, sI 1 c, sI 2 rule, e33_29, e33_6 c3 c rule, e33_28, sI 13 s.1, sI 14 endv, e33_18], [e33_10 fromv over, e33_5 c rule fromv over, e33_0 c0 c1 c2 c3 c4, (40201, [], .dict (.pr (.int .i64) t3) (.int .i64) s.2)]⟩ : St)) (fun s => VCc100_k6 endv X2 s.1 s.2) (fun s h => ?_) (fun rest5 => ?_)
       ·obtain ⟨n2, l402013⟩ := s
        have h : VCc100_k6 endv X2 n2 l402013 := h
        unfold VCc100_k6 at h
        refine blockQ_n ?_
        refine thenQ_n ?_
        refine aw_region ?_
        obtain ⟨o1, h⟩ := h
        refine rq 3 (ob := (Ts 1 (InR (endv + (1 : Int)) ∧ Ts 1 True))) (st' := (⟨99, [e33_12, sI 1 c, sI 2 rule, e33_29, e33_6 c3 c rule, e33_28, sI 13 n2, sI 14 (endv + (1 : Int)), e33_18], [e33_10 fromv over, e33_5 c rule fromv over, e33_0 c0 c1 c2 c3 c4, (40201, [], .dict (.pr (.int .i64) t3) (.int .i64) l402013)]⟩ : St)) (by kernel_rfl) (tsI 1 ⟨o1, tsI 1 trivial⟩) ?_
        refine awl_conv [.ren 30100 50100, .ren 30101 50101, .ren 50100 7, .ren 50101 10] (st' := (⟨99, [e33_12, sI 1 c, sI 2 rule, sp 7 7, e33_6 c3 c rule, sp 10 10, sI 13 n2, sI 14 (endv + (1 : Int)), e33_18], [e33_25 fromv over, e33_19 c rule fromv over, e33_0 c0 c1 c2 c3 c4, (40201, [], .dict (.pr (.int .i64) t3) (.int .i64) l402013)]⟩ : St)) (by kernel_rfl) ?_
        refine awl_nil ?_
        exact thenQ_n ⟨(n2, (endv + (1 : Int)), l402013), rfl, h⟩
       ·refine aw_cond (b := (decide ((0 : Int) < v6))) (by kernel_rfl) (fun hb => ?_) (fun hb => ?_)
        ·have h := h.1 hb
         refine aw_region ?_
         obtain ⟨o1, h⟩ := h
         refine rq 10 (ob := (Ts 5 (InR (rule + (1 : Int)) ∧ Ts 4 True))) (st' := (⟨99, [e33_12, sI 1 c, sI 2 rule, e33_29, e33_6 c3 c rule, e33_28, sI 14 endv, sI 79 n, sI 80 v6, sp 81 40200, sI 82 c, sI 84 (rule + (1 : Int)), sA 88 [.pI endv, .pI over], e33_18], [e33_10 fromv over, e33_5 c rule fromv over, e33_0 c0 c1 c2 c3 c4, e33_11 l402012]⟩ : St)) (by kernel_rfl) (tsI 5 ⟨o1, tsI 4 trivial⟩) ?_
         refine awl_lcall (σ := Int × (List ((Int × (Int × (Int × Int))) × Int))) [40200, 40201] [40200] [.c (.ptr 40200 0), .c (.pI c), .c (.pI (rule + (1 : Int))), .agg [.pI endv, .pI over]] [] (fun ret89v => .v (.c (.pI ret89v.1))) (fun ret89v => [hB 40200 [.pI c0, .pI c1, .pI c2, .p (.sl (.pr (.int .i64) (.sl (.int .i64)))) c3, .pS c4, .own 40201], (40201, [], .dict (.pr (.int .i64) t3) (.int .i64) ret89v.2)]) (fun (ret89v : Int × (List ((Int × (Int × (Int × Int))) × Int))) => VC124 v6 ret89v.1 (fun (ret90v : Int) => VC109 n ret90v (fun (ret91v : Int) => VCc100_k6 endv X2 ret91v ret89v.2))) [hB 40200 [.pI c0, .pI c1, .pI c2, .p (.sl (.pr (.int .i64) (.sl (.int .i64)))) c3, .pS c4, .own 40201], (40201, [], .dict (.pr (.int .i64) t3) (.int .i64) l402012)] (fun ret89v => (⟨99, [sI 89 ret89v.1, e33_12, sI 1 c, sI 2 rule, e33_29, e33_6 c3 c rule, e33_28, sI 14 endv, sI 79 n, sI 80 v6, sp 81 40200, sI 82 c, sI 84 (rule + (1 : Int)), sA 88 [.pI endv, .pI over], e33_18], [e33_0 c0 c1 c2 c3 c4, e33_26 ret89v, e33_10 fromv over, e33_5 c rule fromv over]⟩ : St)) rfl rfl (by kernel_rfl) rfl (by kernel_rfl) Try.call100 (by kernel_rfl) (by kernel_rfl) (by kernel_rfl) (fun _ _ => rfl) (fun _ => by kernel_rfl) (hR c (rule + (1 : Int)) endv over l402012 _ h) (fun ret89v h => ?_)
         refine lpr (st' := (⟨99, [e33_12, sI 1 c, sI 2 rule, e33_29, e33_6 c3 c rule, e33_28, sI 14 endv, sI 79 n, sI 80 v6, sI 89 ret89v.1, e33_18], [e33_10 fromv over, e33_5 c rule fromv over, e33_0 c0 c1 c2 c3 c4, e33_26 ret89v]⟩ : St)) (by kernel_rfl) ?_
         refine lcq (d := 90) [.d (.int .i64), .d (.int .i64)] (fun ret90v => (⟨99, [e33_12, sI 1 c, sI 2 rule, e33_29, e33_6 c3 c rule, e33_28, sI 14 endv, sI 79 n, sI 90 ret90v, e33_18], [e33_10 fromv over, e33_5 c rule fromv over, e33_0 c0 c1 c2 c3 c4, e33_26 ret89v]⟩ : St)) (by kernel_rfl) Try.call124 (fun _ => by kernel_rfl) (link124 v6 ret89v.1 _ h) (fun ret90v h => ?_)
         refine lcq (d := 91) [.d (.int .i64), .d (.int .i64)] (fun ret91v => (⟨99, [e33_12, sI 1 c, sI 2 rule, e33_29, e33_6 c3 c rule, e33_28, sI 14 endv, sI 91 ret91v, e33_18], [e33_10 fromv over, e33_5 c rule fromv over, e33_0 c0 c1 c2 c3 c4, e33_26 ret89v]⟩ : St)) (by kernel_rfl) Try.call109 (fun _ => by kernel_rfl) (link109 n ret90v _ h) (fun ret91v h => ?_)
         refine rq 1 (ob := (Ts 1 True)) (st' := (⟨99, [e33_12, sI 1 c, sI 2 rule, e33_29, e33_6 c3 c rule, e33_28, sI 13 ret91v, sI 14 endv, e33_18], [e33_10 fromv over, e33_5 c rule fromv over, e33_0 c0 c1 c2 c3 c4, e33_26 ret89v]⟩ : St)) (by kernel_rfl) (tsI 1 trivial) ?_
         refine awl_nil ?_
         exact rest5 (ret91v, ret89v.2) h
        ·have h := h.2 hb
         refine cpr (st' := (⟨99, [e33_12, sI 1 c, sI 2 rule, e33_29, e33_6 c3 c rule, e33_28, sI 13 n, sI 14 endv, e33_18], [e33_10 fromv over, e33_5 c rule fromv over, e33_0 c0 c1 c2 c3 c4, e33_11 l402012]⟩ : St)) (by kernel_rfl) ?_
         refine aw_skip ?_
         exact rest5 (n, l402012) h
      ·refine sr ?_
       refine rq 2 (ob := (Ts 2 True)) (st' := (⟨87, [e33_12, e33_1 c3 c rule, sp 5 5, e33_21, sI 88 c, sI 89 rule, e33_22, e33_4 c3 c rule, e33_23, sI 100 n, sI 101 endv, e33_13], [e33_16 fromv endv, e33_10 fromv over, e33_5 c rule fromv over, e33_0 c0 c1 c2 c3 c4, e33_7 l40201]⟩ : St)) (by kernel_rfl) (tsI 2 trivial) ?_
       refine nn ?_
       refine aw_seq ?_
       refine sr ?_
       refine rq 7 (ob := (Ts 7 True)) (st' := (⟨87, [e33_12, e33_1 c3 c rule, sp 5 5, sB 19 (decide (((((c3.getD (c).toNat ((0 : Int), ([] : LI))).2).drop (rule).toNat).getD ((0 : Int)).toNat (0 : Int)) < c0)), e33_21, sI 88 c, sI 89 rule, e33_22, e33_4 c3 c rule, e33_23, sI 100 n, sI 101 endv, e33_13], [e33_16 fromv endv, e33_10 fromv over, e33_5 c rule fromv over, e33_0 c0 c1 c2 c3 c4, e33_7 l40201]⟩ : St)) (by kernel_rfl) (tsI 7 trivial) ?_
       refine nn ?_
       refine aw_cond (b := (decide (((((c3.getD (c).toNat ((0 : Int), ([] : LI))).2).drop (rule).toNat).getD ((0 : Int)).toNat (0 : Int)) < c0))) (by kernel_rfl) (fun hb => ?_) (fun hb => ?_)
       ·have h := h.1 hb
        refine aw_seq ?_
        refine aw_seq ?_
        refine awd_begin [] (by kernel_rfl) ?_
        obtain ⟨o1, o2, h⟩ := h
        refine drq (by kernel_rfl) [0, 1, 2, 3, 4, 5, 6, 7, 8, 9, 10, 11, 12, 13, 14, 15, 16, 17] (ob := (Ts 4 (InR (fromv + (1 : Int)) ∧ Ts 2 (Ti 6 ((decide (endv = (fromv + (1 : Int)))) = true → True) (((decide (endv = (fromv + (1 : Int)))) = true → inIdx fromv c4.length) ∧ Ti 3 ((decide (endv = (fromv + (1 : Int)))) = true → True) (Ts 1 True)))))) (done' := [17, 16, 15, 14, 13, 12, 11, 10, 9, 8, 7, 6, 5, 4, 3, 2, 1, 0]) (st' := (⟨87, [sB 37 ((decide (endv = (fromv + (1 : Int)))) && (decide ((c4.getD (fromv).toNat (0 : Int)) = ((((c3.getD (c).toNat ((0 : Int), ([] : LI))).2).drop (rule).toNat).getD ((0 : Int)).toNat (0 : Int))))), e33_21, sI 88 c, sI 89 rule, e33_22, e33_4 c3 c rule, e33_23, sI 100 n, sI 101 endv, e33_13], [e33_10 fromv over, e33_5 c rule fromv over, e33_0 c0 c1 c2 c3 c4, e33_7 l40201]⟩ : St)) (by kernel_rfl) (tsI 4 (⟨o1, tsI 2 (tiI 6 (fun _ => trivial) ⟨o2, tiI 3 (fun _ => trivial) (tsI 1 trivial)⟩)⟩)) ?_
        refine awd_done (by kernel_rfl) ?_
        refine thenQ_n ?_
        refine aw_cond (b := ((decide (endv = (fromv + (1 : Int)))) && (decide ((c4.getD (fromv).toNat (0 : Int)) = ((((c3.getD (c).toNat ((0 : Int), ([] : LI))).2).drop (rule).toNat).getD ((0 : Int)).toNat (0 : Int)))))) (by kernel_rfl) (fun hb => ?_) (fun hb => ?_)
        ·have h := h.1 hb
         refine sr ?_
         refine rq 1 (ob := (Ts 1 True)) (st' := (⟨87, [sI 6 (1 : Int), e33_21, sI 88 c, sI 89 rule, e33_22, e33_4 c3 c rule, e33_23, sI 100 n, sI 101 endv, e33_13], [e33_10 fromv over, e33_5 c rule fromv over, e33_0 c0 c1 c2 c3 c4, e33_7 l40201]⟩ : St)) (by kernel_rfl) (tsI 1 trivial) ?_
         refine nn ?_
         refine aw_ret ?_
         refine thenQ_r ?_
         refine thenQ_r ?_
         exact rest6 ((1 : Int), l40201) h
        ·have h := h.2 hb
         refine aw_skip ?_
         refine thenQ_n ?_
         refine sr ?_
         refine rq 1 (ob := (Ts 1 True)) (st' := (⟨87, [sI 6 (0 : Int), e33_21, sI 88 c, sI 89 rule, e33_22, e33_4 c3 c rule, e33_23, sI 100 n, sI 101 endv, e33_13], [e33_10 fromv over, e33_5 c rule fromv over, e33_0 c0 c1 c2 c3 c4, e33_7 l40201]⟩ : St)) (by kernel_rfl) (tsI 1 trivial) ?_
         refine nn ?_
         refine aw_ret ?_
         refine thenQ_r ?_
         exact rest6 ((0 : Int), l40201) h
       ·have h := h.2 hb
        refine aw_skip ?_
        refine thenQ_n ?_
        refine sr ?_
        refine rq 5 (ob := (Ts 5 True)) (st' := (⟨87, [e33_12, e33_1 c3 c rule, sp 5 5, sp 7 7, e33_21, sI 88 c, sI 89 rule, e33_22, e33_4 c3 c rule, e33_23, sI 100 n, sI 101 endv, e33_13], [e33_16 fromv endv, e33_3 c3 c rule fromv endv, e33_10 fromv over, e33_5 c rule fromv over, e33_0 c0 c1 c2 c3 c4, e33_7 l40201]⟩ : St)) (by kernel_rfl) (tsI 5 trivial) ?_
        refine nn ?_
        refine aw_seq ?_
        refine aw_seq ?_
        refine awd_begin [] (by kernel_rfl) ?_
        refine drq (by kernel_rfl) [0, 1, 2, 3, 4, 5, 6, 7, 8, 9, 10] (ob := (Ts 11 True)) (done' := [10, 9, 8, 7, 6, 5, 4, 3, 2, 1, 0]) (st' := (⟨87, [e33_12, e33_1 c3 c rule, sp 5 5, sp 7 7, sI 8 ((mget l40201 ((-1 : Int), (((((c3.getD (c).toNat ((0 : Int), ([] : LI))).2).drop (rule).toNat).getD ((0 : Int)).toNat (0 : Int)), (fromv, endv)))).getD (0 : Int)), sB 9 ((mget l40201 ((-1 : Int), (((((c3.getD (c).toNat ((0 : Int), ([] : LI))).2).drop (rule).toNat).getD ((0 : Int)).toNat (0 : Int)), (fromv, endv)))).isSome), e33_21, sI 88 c, sI 89 rule, e33_22, e33_4 c3 c rule, e33_23, sI 100 n, sI 101 endv, e33_13], [e33_16 fromv endv, e33_3 c3 c rule fromv endv, e33_10 fromv over, e33_5 c rule fromv over, e33_0 c0 c1 c2 c3 c4, e33_7 l40201]⟩ : St)) (by kernel_rfl) (tsI 11 trivial) ?_
        refine awd_done (by kernel_rfl) ?_
        refine thenQ_n ?_
        refine sr ?_
        refine rq 1 (ob := (Ts 1 True)) (st' := (⟨87, [e33_12, e33_1 c3 c rule, sp 5 5, sp 7 7, sI 8 ((mget l40201 ((-1 : Int), (((((c3.getD (c).toNat ((0 : Int), ([] : LI))).2).drop (rule).toNat).getD ((0 : Int)).toNat (0 : Int)), (fromv, endv)))).getD (0 : Int)), sB 50 ((mget l40201 ((-1 : Int), (((((c3.getD (c).toNat ((0 : Int), ([] : LI))).2).drop (rule).toNat).getD ((0 : Int)).toNat (0 : Int)), (fromv, endv)))).isSome), e33_21, sI 88 c, sI 89 rule, e33_22, e33_4 c3 c rule, e33_23, sI 100 n, sI 101 endv, e33_13], [e33_16 fromv endv, e33_3 c3 c rule fromv endv, e33_10 fromv over, e33_5 c rule fromv over, e33_0 c0 c1 c2 c3 c4, e33_7 l40201]⟩ : St)) (by kernel_rfl) (tsI 1 trivial) ?_
        refine nn ?_
        refine aw_cond (b := (mget l40201 ((-1 : Int), (((((c3.getD (c).toNat ((0 : Int), ([] : LI))).2).drop (rule).toNat).getD ((0 : Int)).toNat (0 : Int)), (fromv, endv)))).isSome) (by kernel_rfl) (fun hb => ?_) (fun hb => ?_)
        ·have h := h.1 hb
         refine sr ?_
         refine rq 2 (ob := (Ts 2 True)) (st' := (⟨87, [sI 6 ((mget l40201 ((-1 : Int), (((((c3.getD (c).toNat ((0 : Int), ([] : LI))).2).drop (rule).toNat).getD ((0 : Int)).toNat (0 : Int)), (fromv, endv)))).getD (0 : Int)), e33_21, sI 88 c, sI 89 rule, e33_22, e33_4 c3 c rule, e33_23, sI 100 n, sI 101 endv, e33_13], [e33_10 fromv over, e33_5 c rule fromv over, e33_0 c0 c1 c2 c3 c4, e33_7 l40201]⟩ : St)) (by kernel_rfl) (tsI 2 trivial) ?_
         refine nn ?_
         refine aw_ret ?_
         refine thenQ_r ?_
         exact rest6 (((mget l40201 ((-1 : Int), (((((c3.getD (c).toNat ((0 : Int), ([] : LI))).2).drop (rule).toNat).getD ((0 : Int)).toNat (0 : Int)), (fromv, endv)))).getD (0 : Int)), l40201) h
        ·have h := h.2 hb
         refine aw_skip ?_
         refine thenQ_n ?_
         refine sr ?_
         refine rq 1 (ob := (Ts 1 True)) (st' := (⟨87, [e33_12, e33_1 c3 c rule, sp 5 5, sp 7 7, sI 10 (0 : Int), e33_21, sI 88 c, sI 89 rule, e33_22, e33_4 c3 c rule, e33_23, sI 100 n, sI 101 endv, e33_13], [e33_16 fromv endv, e33_3 c3 c rule fromv endv, e33_10 fromv over, e33_5 c rule fromv over, e33_0 c0 c1 c2 c3 c4, e33_7 l40201]⟩ : St)) (by kernel_rfl) (tsI 1 trivial) ?_
         refine nn ?_
         refine aw_seq ?_
         refine sr ?_
         refine rq 7 (ob := (Ts 7 True)) (st' := (⟨87, [e33_12, e33_1 c3 c rule, sp 5 5, sp 7 7, sI 10 (0 : Int), e33_8 c3, e33_14 c3, sI 58 (0 : Int), e33_21, sI 88 c, sI 89 rule, e33_22, e33_4 c3 c rule, e33_23, sI 100 n, sI 101 endv, e33_13], [e33_16 fromv endv, e33_3 c3 c rule fromv endv, e33_10 fromv over, e33_5 c rule fromv over, e33_0 c0 c1 c2 c3 c4, e33_7 l40201]⟩ : St)) (by kernel_rfl) (tsI 7 trivial) ?_
         refine nn ?_
         refine withJoin (σ := Int × (List ((Int × (Int × (Int × Int))) × Int))) (fun s => (⟨87, [e33_12, sp 7 7, sI 10 s.1, e33_21, sI 88 c, sI 89 rule, e33_22, e33_4 c3 c rule, e33_23, sI 100 n, sI 101 endv, e33_13], [e33_3 c3 c rule fromv endv, e33_10 fromv over, e33_5 c rule fromv over, e33_0 c0 c1 c2 c3 c4, (40201, [], .dict (.pr (.int .i64) t3) (.int .i64) s.2)]⟩ : St)) (fun s => VCc100_k7 c3 R c rule fromv over n endv X2 s.1 s.2) (fun s h => ?_) (fun rest7 => ?_)
         ·obtain ⟨n2, l402012⟩ := s
          have h : VCc100_k7 c3 R c rule fromv over n endv X2 n2 l402012 := h
          unfold VCc100_k7 at h
          refine thenQ_n ?_
          refine aw_seq ?_
          refine awd_begin [40201] (by kernel_rfl) ?_
          refine drq (by kernel_rfl) [0, 1, 2, 3, 4, 5] (ob := (Ts 6 True)) (done' := [5, 4, 3, 2, 1, 0]) (st' := (⟨87, [sI 10 n2, s1 83 (.own 40201), sA 84 [.pI (-1 : Int), .pI ((((c3.getD (c).toNat ((0 : Int), ([] : LI))).2).drop (rule).toNat).getD ((0 : Int)).toNat (0 : Int)), .pI fromv, .pI endv], sI 85 n2, e33_21, sI 88 c, sI 89 rule, e33_22, e33_4 c3 c rule, e33_23, sI 100 n, sI 101 endv, e33_13], [e33_10 fromv over, e33_5 c rule fromv over, e33_0 c0 c1 c2 c3 c4, e33_11 l402012]⟩ : St)) (by kernel_rfl) (tsI 6 trivial) ?_
          refine awd_one (i := 6) (by kernel_rfl) ?_
          refine dsq (ob := True) (st' := (⟨87, [sI 10 n2, e33_21, sI 88 c, sI 89 rule, e33_22, e33_4 c3 c rule, e33_23, sI 100 n, sI 101 endv, e33_13], [e33_10 fromv over, e33_5 c rule fromv over, e33_0 c0 c1 c2 c3 c4, (40201, [], .dict (.pr (.int .i64) t3) (.int .i64) (mset l402012 ((-1 : Int), (((((c3.getD (c).toNat ((0 : Int), ([] : LI))).2).drop (rule).toNat).getD ((0 : Int)).toNat (0 : Int)), (fromv, endv))) n2))]⟩ : St)) rfl (by kernel_rfl) trivial ?_
          refine awd_done (by kernel_rfl) ?_
          refine thenQ_n ?_
          refine sr ?_
          refine rq 2 (ob := (Ts 2 True)) (st' := (⟨87, [sI 6 n2, e33_21, sI 88 c, sI 89 rule, e33_22, e33_4 c3 c rule, e33_23, sI 100 n, sI 101 endv, e33_13], [e33_10 fromv over, e33_5 c rule fromv over, e33_0 c0 c1 c2 c3 c4, (40201, [], .dict (.pr (.int .i64) t3) (.int .i64) (mset l402012 ((-1 : Int), (((((c3.getD (c).toNat ((0 : Int), ([] : LI))).2).drop (rule).toNat).getD ((0 : Int)).toNat (0 : Int)), (fromv, endv))) n2))]⟩ : St)) (by kernel_rfl) (tsI 2 trivial) ?_
          refine nn ?_
          refine aw_ret ?_
          exact rest6 (n2, (mset l402012 ((-1 : Int), (((((c3.getD (c).toNat ((0 : Int), ([] : LI))).2).drop (rule).toNat).getD ((0 : Int)).toNat (0 : Int)), (fromv, endv))) n2)) h
         ·refine aw_block ?_
          refine aw_loop (σ := Int × Int × (List ((Int × (Int × (Int × Int))) × Int))) (fun s => (⟨87, [e33_12, e33_1 c3 c rule, sp 5 5, sp 7 7, sI 10 s.1, e33_8 c3, e33_14 c3, sI 58 s.2.1, e33_21, sI 88 c, sI 89 rule, e33_22, e33_4 c3 c rule, e33_23, sI 100 n, sI 101 endv, e33_13], [e33_16 fromv endv, e33_3 c3 c rule fromv endv, e33_10 fromv over, e33_5 c rule fromv over, e33_0 c0 c1 c2 c3 c4, (40201, [], .dict (.pr (.int .i64) t3) (.int .i64) s.2.2)]⟩ : St)) (fun s X => VCc100_l3 c0 c3 R c rule fromv over n endv X2 s.1 s.2.1 s.2.2 X) (s0 := ((0 : Int), (0 : Int), l40201)) (fun s X3 h => ?_) h
          obtain ⟨n2, v58, l402012⟩ := s
          have h : VCc100_l3 c0 c3 R c rule fromv over n endv X2 n2 v58 l402012 X3 := h
          unfold VCc100_l3 at h
          refine sr ?_
          refine rq 1 (ob := (Ts 1 True)) (st' := (⟨87, [e33_12, e33_1 c3 c rule, sp 5 5, sp 7 7, sI 10 n2, e33_8 c3, e33_14 c3, sI 58 v58, sB 59 (decide (v58 < (c3.length : Int))), e33_21, sI 88 c, sI 89 rule, e33_22, e33_4 c3 c rule, e33_23, sI 100 n, sI 101 endv, e33_13], [e33_16 fromv endv, e33_3 c3 c rule fromv endv, e33_10 fromv over, e33_5 c rule fromv over, e33_0 c0 c1 c2 c3 c4, e33_11 l402012]⟩ : St)) (by kernel_rfl) (tsI 1 trivial) ?_
          refine nn ?_
          refine aw_seq ?_
          refine aw_cond (b := (decide (v58 < (c3.length : Int)))) (by kernel_rfl) (fun hb => ?_) (fun hb => ?_)
          ·have h := h.1 hb
           refine aw_skip ?_
           refine thenQ_n ?_
           refine aw_seq ?_
           refine aw_block ?_
           refine sr ?_
           obtain ⟨o1, h⟩ := h
           refine rq 6 (ob := (Ts 1 (inIdx v58 c3.length ∧ Ts 4 True))) (st' := (⟨87, [e33_12, e33_1 c3 c rule, sp 5 5, sp 7 7, sI 10 n2, sI 11 v58, sp 12 12, e33_8 c3, e33_14 c3, sI 58 v58, e33_21, sI 88 c, sI 89 rule, e33_22, e33_4 c3 c rule, e33_23, sI 100 n, sI 101 endv, e33_13], [e33_16 fromv endv, e33_3 c3 c rule fromv endv, e33_27 c3 v58, e33_10 fromv over, e33_5 c rule fromv over, e33_0 c0 c1 c2 c3 c4, e33_11 l402012]⟩ : St)) (by kernel_rfl) (tsI 1 ⟨o1, tsI 4 trivial⟩) ?_
           refine nn ?_
           refine aw_seq ?_
           refine awd_begin [] (by kernel_rfl) ?_
           obtain ⟨o1, h⟩ := h
           refine drq (by kernel_rfl) [0, 1, 2, 3, 4, 5, 6, 7, 8, 9] (ob := (Ts 8 (InR (((((c3.getD (c).toNat ((0 : Int), ([] : LI))).2).drop (rule).toNat).getD ((0 : Int)).toNat (0 : Int)) - c0) ∧ Ts 1 True))) (done' := [9, 8, 7, 6, 5, 4, 3, 2, 1, 0]) (st' := (⟨87, [e33_12, e33_1 c3 c rule, sp 5 5, sp 7 7, sI 10 n2, sI 11 v58, e33_8 c3, e33_14 c3, sI 58 v58, e33_20 c3 v58 c rule c0, e33_21, sI 88 c, sI 89 rule, e33_22, e33_4 c3 c rule, e33_23, sI 100 n, sI 101 endv, e33_13], [e33_16 fromv endv, e33_3 c3 c rule fromv endv, e33_10 fromv over, e33_5 c rule fromv over, e33_0 c0 c1 c2 c3 c4, e33_11 l402012]⟩ : St)) (by kernel_rfl) (tsI 8 ⟨o1, tsI 1 trivial⟩) ?_
           refine awd_done (by kernel_rfl) ?_
           refine thenQ_n ?_
           refine withJoin (σ := Int × (List ((Int × (Int × (Int × Int))) × Int))) (fun s => (⟨87, [e33_12, e33_1 c3 c rule, sp 5 5, sp 7 7, sI 10 s.1, e33_8 c3, e33_14 c3, sI 58 v58, e33_21, sI 88 c, sI 89 rule, e33_22, e33_4 c3 c rule, e33_23, sI 100 n, sI 101 endv, e33_13], [e33_16 fromv endv, e33_3 c3 c rule fromv endv, e33_10 fromv over, e33_5 c rule fromv over, e33_0 c0 c1 c2 c3 c4, (40201, [], .dict (.pr (.int .i64) t3) (.int .i64) s.2)]⟩ : St)) (fun s => VCc100_k8 v58 X3 s.1 s.2) (fun s h => ?_) (fun rest8 => ?_)
           ·obtain ⟨n3, l402013⟩ := s
            have h : VCc100_k8 v58 X3 n3 l402013 := h
            unfold VCc100_k8 at h
            refine blockQ_n ?_
            refine thenQ_n ?_
            refine aw_region ?_
            obtain ⟨o1, h⟩ := h
            refine rq 2 (ob := (InR (v58 + (1 : Int)) ∧ Ts 1 True)) (st' := (⟨87, [e33_12, e33_1 c3 c rule, sp 5 5, sp 7 7, sI 10 n3, e33_8 c3, e33_14 c3, sI 58 (v58 + (1 : Int)), e33_21, sI 88 c, sI 89 rule, e33_22, e33_4 c3 c rule, e33_23, sI 100 n, sI 101 endv, e33_13], [e33_16 fromv endv, e33_3 c3 c rule fromv endv, e33_10 fromv over, e33_5 c rule fromv over, e33_0 c0 c1 c2 c3 c4, (40201, [], .dict (.pr (.int .i64) t3) (.int .i64) l402013)]⟩ : St)) (by kernel_rfl) (⟨o1, tsI 1 trivial⟩) ?_
            refine awl_nil ?_
            exact thenQ_n ⟨(n3, (v58 + (1 : Int)), l402013), rfl, h⟩
           ·refine aw_cond (b := (decide ((c3.getD (v58).toNat ((0 : Int), ([] : LI))).1 = (((((c3.getD (c).toNat ((0 : Int), ([] : LI))).2).drop (rule).toNat).getD ((0 : Int)).toNat (0 : Int)) - c0)))) (by kernel_rfl) (fun hb => ?_) (fun hb => ?_)
            ·have h := h.1 hb
             refine aw_region ?_
             refine rq 4 (ob := (Ts 4 True)) (st' := (⟨87, [e33_12, e33_1 c3 c rule, sp 5 5, sp 7 7, e33_8 c3, e33_14 c3, sI 58 v58, sI 73 n2, sp 74 40200, sI 75 v58, sA 76 [.pI fromv, .pI endv], e33_21, sI 88 c, sI 89 rule, e33_22, e33_4 c3 c rule, e33_23, sI 100 n, sI 101 endv, e33_13], [e33_16 fromv endv, e33_3 c3 c rule fromv endv, e33_10 fromv over, e33_5 c rule fromv over, e33_0 c0 c1 c2 c3 c4, e33_11 l402012]⟩ : St)) (by kernel_rfl) (tsI 4 trivial) ?_
             refine awl_lcall (σ := Int × (List ((Int × (Int × (Int × Int))) × Int))) [40200, 40201] [40200] [.c (.ptr 40200 0), .c (.pI v58), .c (.pI (0 : Int)), .agg [.pI fromv, .pI endv]] [] (fun ret77v => .v (.c (.pI ret77v.1))) (fun ret77v => [hB 40200 [.pI c0, .pI c1, .pI c2, .p (.sl (.pr (.int .i64) (.sl (.int .i64)))) c3, .pS c4, .own 40201], (40201, [], .dict (.pr (.int .i64) t3) (.int .i64) ret77v.2)]) (fun (ret77v : Int × (List ((Int × (Int × (Int × Int))) × Int))) => VC109 n2 ret77v.1 (fun (ret78v : Int) => VCc100_k8 v58 X3 ret78v ret77v.2)) [hB 40200 [.pI c0, .pI c1, .pI c2, .p (.sl (.pr (.int .i64) (.sl (.int .i64)))) c3, .pS c4, .own 40201], (40201, [], .dict (.pr (.int .i64) t3) (.int .i64) l402012)] (fun ret77v => (⟨87, [sI 77 ret77v.1, e33_12, e33_1 c3 c rule, sp 5 5, sp 7 7, e33_8 c3, e33_14 c3, sI 58 v58, sI 73 n2, sp 74 40200, sI 75 v58, sA 76 [.pI fromv, .pI endv], e33_21, sI 88 c, sI 89 rule, e33_22, e33_4 c3 c rule, e33_23, sI 100 n, sI 101 endv, e33_13], [e33_0 c0 c1 c2 c3 c4, e33_17 ret77v, e33_16 fromv endv, e33_3 c3 c rule fromv endv, e33_10 fromv over, e33_5 c rule fromv over]⟩ : St)) rfl rfl (by kernel_rfl) rfl (by kernel_rfl) Try.call100 (by kernel_rfl) (by kernel_rfl) (by kernel_rfl) (fun _ _ => rfl) (fun _ => by kernel_rfl) (hR v58 (0 : Int) fromv endv l402012 _ h) (fun ret77v h => ?_)
             refine lpr (st' := (⟨87, [e33_12, e33_1 c3 c rule, sp 5 5, sp 7 7, e33_8 c3, e33_14 c3, sI 58 v58, sI 73 n2, sI 77 ret77v.1, e33_21, sI 88 c, sI 89 rule, e33_22, e33_4 c3 c rule, e33_23, sI 100 n, sI 101 endv, e33_13], [e33_16 fromv endv, e33_3 c3 c rule fromv endv, e33_10 fromv over, e33_5 c rule fromv over, e33_0 c0 c1 c2 c3 c4, e33_17 ret77v]⟩ : St)) (by kernel_rfl) ?_
             refine lcq (d := 78) [.d (.int .i64), .d (.int .i64)] (fun ret78v => (⟨87, [e33_12, e33_1 c3 c rule, sp 5 5, sp 7 7, e33_8 c3, e33_14 c3, sI 58 v58, sI 78 ret78v, e33_21, sI 88 c, sI 89 rule, e33_22, e33_4 c3 c rule, e33_23, sI 100 n, sI 101 endv, e33_13], [e33_16 fromv endv, e33_3 c3 c rule fromv endv, e33_10 fromv over, e33_5 c rule fromv over, e33_0 c0 c1 c2 c3 c4, e33_17 ret77v]⟩ : St)) (by kernel_rfl) Try.call109 (fun _ => by kernel_rfl) (link109 n2 ret77v.1 _ h) (fun ret78v h => ?_)
             refine rq 1 (ob := (Ts 1 True)) (st' := (⟨87, [e33_12, e33_1 c3 c rule, sp 5 5, sp 7 7, sI 10 ret78v, e33_8 c3, e33_14 c3, sI 58 v58, e33_21, sI 88 c, sI 89 rule, e33_22, e33_4 c3 c rule, e33_23, sI 100 n, sI 101 endv, e33_13], [e33_16 fromv endv, e33_3 c3 c rule fromv endv, e33_10 fromv over, e33_5 c rule fromv over, e33_0 c0 c1 c2 c3 c4, e33_17 ret77v]⟩ : St)) (by kernel_rfl) (tsI 1 trivial) ?_
             refine awl_nil ?_
             exact rest8 (ret78v, ret77v.2) h
            ·have h := h.2 hb
             refine cpr (st' := (⟨87, [e33_12, e33_1 c3 c rule, sp 5 5, sp 7 7, sI 10 n2, e33_8 c3, e33_14 c3, sI 58 v58, e33_21, sI 88 c, sI 89 rule, e33_22, e33_4 c3 c rule, e33_23, sI 100 n, sI 101 endv, e33_13], [e33_16 fromv endv, e33_3 c3 c rule fromv endv, e33_10 fromv over, e33_5 c rule fromv over, e33_0 c0 c1 c2 c3 c4, e33_11 l402012]⟩ : St)) (by kernel_rfl) ?_
             refine aw_skip ?_
             exact rest8 (n2, l402012) h
          ·have h := h.2 hb
           refine cpr (st' := (⟨87, [e33_12, sp 7 7, sI 10 n2, e33_21, sI 88 c, sI 89 rule, e33_22, e33_4 c3 c rule, e33_23, sI 100 n, sI 101 endv, e33_13], [e33_3 c3 c rule fromv endv, e33_10 fromv over, e33_5 c rule fromv over, e33_0 c0 c1 c2 c3 c4, e33_11 l402012]⟩ : St)) (by kernel_rfl) ?_
           refine aw_exit ?_
           refine thenQ_x ?_
           refine thenQ_x ?_
           refine blockQ_hit ?_
           exact rest7 (n2, l402012) h
     ·have h := h.2 hb
      refine cpr (st' := (⟨99, [e33_12, sp 10 10, sI 13 n, e33_18], [e33_19 c rule fromv over, e33_0 c0 c1 c2 c3 c4, e33_7 l40201]⟩ : St)) (by kernel_rfl) ?_
      refine aw_exit ?_
      refine thenQ_x ?_
      refine thenQ_x ?_
      refine blockQ_hit ?_
      exact rest4 (n, l40201) h

def VCc100_it (c0 : Int) (c1 : Int) (c2 : Int) (c3 : (List (Int × LI))) (c4 : LI) : Nat → Int → Int → Int → Int → (List ((Int × (Int × (Int × Int))) × Int)) → (Int × (List ((Int × (Int × (Int × Int))) × Int)) → Prop) → Prop
  | 0 => fun _ _ _ _ _ _ => False
  | n + 1 => fun c rule fromv over c5 K => VCc100 c0 c1 c2 c3 c4 (VCc100_it c0 c1 c2 c3 c4 n) c rule fromv over c5 K

def VCcr100 (c0 : Int) (c1 : Int) (c2 : Int) (c3 : (List (Int × LI))) (c4 : LI) (c : Int) (rule : Int) (fromv : Int) (over : Int) (c5 : (List ((Int × (Int × (Int × Int))) × Int))) (K : Int × (List ((Int × (Int × (Int × Int))) × Int)) → Prop) : Prop := ∃ n, VCc100_it c0 c1 c2 c3 c4 n c rule fromv over c5 K

theorem linkci100 (c0 : Int) (c1 : Int) (c2 : Int) (c3 : (List (Int × LI))) (c4 : LI) : ∀ (n : Nat) (c : Int) (rule : Int) (fromv : Int) (over : Int) (c5 : (List ((Int × (Int × (Int × Int))) × Int))) (K : Int × (List ((Int × (Int × (Int × Int))) × Int)) → Prop), VCc100_it c0 c1 c2 c3 c4 n c rule fromv over c5 K → LCalls Try.prog 100 [40200, 40201] [40200] [hB 40200 [.pI c0, .pI c1, .pI c2, .p (.sl (.pr (.int .i64) (.sl (.int .i64)))) c3, .pS c4, .own 40201], (40201, [], .dict (.pr (.int .i64) t3) (.int .i64) c5)] [.c (.ptr 40200 0), .c (.pI c), .c (.pI rule), .agg [.pI fromv, .pI over]] (fun av hp' => ∃ y : Int × (List ((Int × (Int × (Int × Int))) × Int)), av = .v (.c (.pI y.1)) ∧ hp' = [hB 40200 [.pI c0, .pI c1, .pI c2, .p (.sl (.pr (.int .i64) (.sl (.int .i64)))) c3, .pS c4, .own 40201], (40201, [], .dict (.pr (.int .i64) t3) (.int .i64) y.2)] ∧ K y)
  | 0, _, _, _, _, _, _, h => False.elim h
  | n + 1, c, rule, fromv, over, c5, K, h => linkc100 c0 c1 c2 c3 c4 (VCc100_it c0 c1 c2 c3 c4 n) (linkci100 c0 c1 c2 c3 c4 n) c rule fromv over c5 K h

theorem linkcr100 (c0 : Int) (c1 : Int) (c2 : Int) (c3 : (List (Int × LI))) (c4 : LI) (c : Int) (rule : Int) (fromv : Int) (over : Int) (c5 : (List ((Int × (Int × (Int × Int))) × Int))) (K : Int × (List ((Int × (Int × (Int × Int))) × Int)) → Prop) (h : VCcr100 c0 c1 c2 c3 c4 c rule fromv over c5 K) : LCalls Try.prog 100 [40200, 40201] [40200] [hB 40200 [.pI c0, .pI c1, .pI c2, .p (.sl (.pr (.int .i64) (.sl (.int .i64)))) c3, .pS c4, .own 40201], (40201, [], .dict (.pr (.int .i64) t3) (.int .i64) c5)] [.c (.ptr 40200 0), .c (.pI c), .c (.pI rule), .agg [.pI fromv, .pI over]] (fun av hp' => ∃ y : Int × (List ((Int × (Int × (Int × Int))) × Int)), av = .v (.c (.pI y.1)) ∧ hp' = [hB 40200 [.pI c0, .pI c1, .pI c2, .p (.sl (.pr (.int .i64) (.sl (.int .i64)))) c3, .pS c4, .own 40201], (40201, [], .dict (.pr (.int .i64) t3) (.int .i64) y.2)] ∧ K y) := by
  obtain ⟨n, h⟩ := h
  exact linkci100 c0 c1 c2 c3 c4 n c rule fromv over c5 K h

end Dec
