/-
Printed by dec2.py: of each function its plain demand, and that the demand gives the contract.
-/
import Derived.Test.YtfchgkifdfgbmaaProg
import Derived.Test.YtfchgkifdfgbmaaDecSo
import Derived.Test.YtfchgkifdfgbmaaDecSk
import Derived.Test.YtfchgkifdfgbmaaDecMr
import Derived.Test.YtfchgkifdfgbmaaDecDg
import Derived.Test.YtfchgkifdfgbmaaShelf
import Derived.Test.YtfchgkifdfgbmaaDecSh
set_option linter.unusedSimpArgs false
set_option linter.unusedVariables false
set_option maxRecDepth 100000
set_option maxHeartbeats 4000000
namespace Dec
open Go Go.RowKit Go.Proofs
abbrev Lqa := (List (Int × (Int × (Int × LL)))) × Int
abbrev zqa := ((0 : Int), ((0 : Int), ((0 : Int), ([] : LL))))
abbrev Lqb := List ((Int × (Int × Int)) × (List (Int × LN)))
abbrev tqa : Ty := .pr tI (.pr tI (.pr tI (.sl (.sl tI))))
abbrev Lqc := List ((Int × Int) × Int)
abbrev Lqd := List (LI × Int)
abbrev Lqe := Int × (Int × (Int × LL))
abbrev Lqf := Int × (Int × Int)
abbrev zqb := ((0 : Int), ([] : LI))
abbrev Lqg := List (Int × LN)
abbrev tqb : Ty := .pr (.sl tqa) tI
abbrev zqc := ((0 : Int), ([] : LN))
abbrev Lqh := List (Lqf × Int)
abbrev Lqi := (Int × Lqf) × Int
-- coppicer/grammar.Check$1
def VC49 (n low high : Int) (K : Bool → Prop) : Prop :=
  K ((decide (low ≤ n)) && (decide (n ≤ high)))
theorem link49 (n low high : Int) (K : Bool → Prop) (h : VC49 n low high K) : ACalls Try.prog 49 [toV1 tI n, toV1 tI low, toV1 tI high] (fun res => ∃ y, res = (fun y => [toV1 .bool y]) y ∧ K y) := by
 refine acalls_of_aw [.bool] [.t 6] Try.func49 rfl rfl rfl ?_
 unfold VC49 at h
 refine sr (qT 1 ⟨15, [sI 0 n, sI 1 low, sI 2 high], []⟩ (nsr (qR 9 ⟨15, [sB 6 ((decide (low ≤ n)) && (decide (n ≤ high)))], []⟩ (ob := Ts 4 (Ti 3 ((decide (low ≤ n)) = true → True) (Ts 2 True))) (tsI 4 (tiI 3 (fun _ => trivial) (tsI 2 trivial))) ?_)))
 exact nn (aw_ret (qE 1 h))
abbrev e57_0 (sv : LR) := s1 0 (.p (.sl tR) sv)
abbrev e57_1 (sv : LR) := sI 7 (sv.length : Int)
-- slices.IndexFunc[[]coppicer/api.Rule,coppicer/api.Rule]
def VC57_k1 (K : Int → Prop) : Prop :=
  K (-1 : Int)
def VC57_l1 (sv : LR) (F1 : (Int × LI) → (Bool → Prop) → Prop) (K : Int → Prop) (v8 : Int) (X1 : Int → Prop) : Prop :=
  (((decide (v8 < (sv.length : Int))) = true → (inIdx v8 sv.length ∧ F1 (sv.getD (v8).toNat ((0 : Int), ([] : LI))) (fun (ret16v : Bool) => ((ret16v = true → K v8) ∧ (ret16v = false → (InR (v8 + (1 : Int)) ∧ X1 (v8 + (1 : Int)))))))) ∧ ((decide (v8 < (sv.length : Int))) = false → VC57_k1 K))
def VC57 (sv : LR) (F1 : (Int × LI) → (Bool → Prop) → Prop) (K : Int → Prop) : Prop :=
  Loop (σ := Int) (fun s X => VC57_l1 sv F1 K s X) (0 : Int)
theorem link57 (sv : LR) (fv1 : FuncId) (cv1 : List Dat) (F1 : (Int × LI) → (Bool → Prop) → Prop) (hF1 : FnIs Try.prog fv1 cv1 (fun (x : (Int × LI)) => [toV1 tR x]) (fun (y : Bool) => [toV1 .bool y]) F1) (K : Int → Prop) (h : VC57 sv F1 K) : ACalls Try.prog 57 [toV1 (.sl tR) sv, .c (.fn fv1 cv1)] (fun res => ∃ y, res = (fun y => [toV1 tI y]) y ∧ K y) := by
 refine acalls_of_aw [tI] [.t 4] Try.func57 rfl rfl rfl ?_
 unfold VC57 at h
 refine qS 1 ⟨19, [e57_0 sv, s1 1 (.fn fv1 cv1)], []⟩ (aw_seq (qS 3 ⟨19, [e57_0 sv, s1 1 (.fn fv1 cv1), e57_1 sv, sI 8 (0 : Int)], []⟩ (withJoin (σ := Unit) (fun s => ⟨19, [], []⟩) (fun s => VC57_k1 K) (fun s h => ?_) (fun rest1 => ?_))))
 ·have h : VC57_k1 K := h
  unfold VC57_k1 at h
  exact thenQ_n (qS 1 ⟨19, [sI 4 (-1 : Int)], []⟩ (aw_ret (qE 1 h)))
 ·refine aw_block (aw_loop (σ := Int) (fun s => ⟨19, [e57_0 sv, s1 1 (.fn fv1 cv1), e57_1 sv, sI 8 s], []⟩) (fun s X => VC57_l1 sv F1 K s X) (s0 := (0 : Int)) (fun v8 X1 h => ?_) h)
  have h : VC57_l1 sv F1 K v8 X1 := h
  unfold VC57_l1 at h
  refine qS 1 ⟨19, [e57_0 sv, s1 1 (.fn fv1 cv1), e57_1 sv, sI 8 v8, sB 9 (decide (v8 < (sv.length : Int)))], []⟩ (aw_seq (qI h (fun h => ?_) fun h => ?_))
  ·refine aw_skip (thenQ_n (aw_seq (aw_block (sr (qT 2 ⟨19, [e57_0 sv, s1 1 (.fn fv1 cv1), sI 5 v8, e57_1 sv, sI 8 v8], []⟩ (nsr (qA 5 3 1 ⟨19, [e57_0 sv, s1 1 (.fn fv1 cv1), sI 5 v8, e57_1 sv, sI 8 v8, s1 11 (.fn fv1 cv1), sA 15 [.pI ((sv.getD (v8).toNat zqb).1), .pS ((sv.getD (v8).toNat zqb).2)]], []⟩ h fun h => qK 16 [.d tR] (fun ret16v => ⟨19, [e57_0 sv, s1 1 (.fn fv1 cv1), sI 5 v8, e57_1 sv, sI 8 v8, sB 16 ret16v], []⟩) hF1.1 (hF1.2 (sv.getD (v8).toNat zqb) _ h) fun ret16v h => ?_)))))))
   refine nn (qI h (fun h => ?_) fun h => ?_)
   ·exact qS 2 ⟨19, [sI 4 v8], []⟩ (aw_ret (blockQ_r (thenQ_r (thenQ_r (blockQ_r (thenQ_r (qE 1 h)))))))
   ·exact aw_skip (blockQ_n (thenQ_n (aw_region (qA 2 0 1 ⟨19, [e57_0 sv, s1 1 (.fn fv1 cv1), e57_1 sv, sI 8 (v8 + (1 : Int))], []⟩ h fun h => awl_nil (thenQ_n ⟨(v8 + (1 : Int)), rfl, h⟩)))))
  ·exact qC ⟨19, [], []⟩ (aw_exit (thenQ_x (thenQ_x (blockQ_hit (rest1 () h)))))
-- slices.ContainsFunc[[]coppicer/api.Rule,coppicer/api.Rule]
def VC31 (sv : LR) (F1 : (Int × LI) → (Bool → Prop) → Prop) (K : Bool → Prop) : Prop :=
  VC57 sv F1 (fun (ret7v : Int) => K (decide ((0 : Int) ≤ ret7v)))
theorem link31 (sv : LR) (fv1 : FuncId) (cv1 : List Dat) (F1 : (Int × LI) → (Bool → Prop) → Prop) (hF1 : FnIs Try.prog fv1 cv1 (fun (x : (Int × LI)) => [toV1 tR x]) (fun (y : Bool) => [toV1 .bool y]) F1) (K : Bool → Prop) (h : VC31 sv F1 K) : ACalls Try.prog 31 [toV1 (.sl tR) sv, .c (.fn fv1 cv1)] (fun res => ∃ y, res = (fun y => [toV1 .bool y]) y ∧ K y) := by
 refine acalls_of_aw [.bool] [.t 4] Try.func31 rfl rfl rfl ?_
 unfold VC31 at h
 refine sr (qT 1 ⟨9, [s1 0 (.p (.sl tR) sv), s1 1 (.fn fv1 cv1)], []⟩ (nsr (qT 2 ⟨9, [s1 5 (.p (.sl tR) sv), s1 6 (.fn fv1 cv1)], []⟩ (qK 7 [.d (.sl tR), .fn] (fun ret7v => ⟨9, [sI 7 ret7v], []⟩) Try.call57 (link57 sv fv1 cv1 F1 hF1 _ h) fun ret7v h => ?_))))
 exact qT 2 ⟨9, [sB 4 (decide ((0 : Int) ≤ ret7v))], []⟩ (nn (aw_ret (qE 1 h)))
-- coppicer/grammar.Check$2
def VC50 (rv : (Int × LI)) (K : Bool → Prop) : Prop :=
  K (decide ((4 : Int) < (rv.2.length : Int)))
theorem link50 (rv : (Int × LI)) (K : Bool → Prop) (h : VC50 rv K) : ACalls Try.prog 50 [toV1 tR rv] (fun res => ∃ y, res = (fun y => [toV1 .bool y]) y ∧ K y) := by
 refine acalls_of_aw [.bool] [.t 2] Try.func50 rfl rfl rfl ?_
 unfold VC50 at h
 exact sr (qT 2 ⟨7, [sp 1 1], [hB 1 [.pI rv.1, .pS rv.2]]⟩ (nsr (qT 5 ⟨7, [sB 2 (decide ((4 : Int) < (rv.2.length : Int)))], []⟩ (nn (aw_ret (qE 1 h))))))
-- coppicer/grammar.IsSigns$1
def VC67 (sv : Int) (a1 : TG) (K : Bool → Prop) : Prop :=
  (((decide (sv < (0 : Int))) = false → InR (a1.1 + a1.2.1)) ∧ K ((decide (sv < (0 : Int))) || (decide ((a1.1 + a1.2.1) ≤ sv))))
theorem link67 (sv : Int) (a1 : TG) (K : Bool → Prop) (h : VC67 sv a1 K) : ACalls Try.prog 67 [toV1 tI sv, .c (.ad tG a1)] (fun res => ∃ y, res = (fun y => [toV1 .bool y]) y ∧ K y) := by
 refine acalls_of_aw [.bool] [.t 3] Try.func67 rfl rfl rfl ?_
 refine sr (qT 1 ⟨15, [sI 0 sv, s1 1 (.ad tG a1)], []⟩ (nsr ?_))
 obtain ⟨o1, h⟩ := h
 refine qR 12 ⟨15, [sB 3 ((decide (sv < (0 : Int))) || (decide ((a1.1 + a1.2.1) ≤ sv)))], []⟩ (ob := Ts 3 (Ti 5 ((decide (sv < (0 : Int))) = false → True) (((decide (sv < (0 : Int))) = false → InR (a1.1 + a1.2.1)) ∧ ((decide (sv < (0 : Int))) = false → True) ∧ Ts 2 True))) (tsI 3 (tiI 5 (fun _ => trivial) (⟨o1, ⟨(fun _ => trivial), tsI 2 trivial⟩⟩))) ?_
 exact nn (aw_ret (qE 1 h))
abbrev e52_0 (sv : LI) := sI 7 (sv.length : Int)
-- slices.IndexFunc[[]int,int]
def VC52_k1 (K : Int → Prop) : Prop :=
  K (-1 : Int)
def VC52_l1 (sv : LI) (F1 : Int → (Bool → Prop) → Prop) (K : Int → Prop) (v8 : Int) (X1 : Int → Prop) : Prop :=
  (((decide (v8 < (sv.length : Int))) = true → (inIdx v8 sv.length ∧ F1 (sv.getD (v8).toNat (0 : Int)) (fun (ret16v : Bool) => ((ret16v = true → K v8) ∧ (ret16v = false → (InR (v8 + (1 : Int)) ∧ X1 (v8 + (1 : Int)))))))) ∧ ((decide (v8 < (sv.length : Int))) = false → VC52_k1 K))
def VC52 (sv : LI) (F1 : Int → (Bool → Prop) → Prop) (K : Int → Prop) : Prop :=
  Loop (σ := Int) (fun s X => VC52_l1 sv F1 K s X) (0 : Int)
theorem link52 (sv : LI) (fv1 : FuncId) (cv1 : List Dat) (F1 : Int → (Bool → Prop) → Prop) (hF1 : FnIs Try.prog fv1 cv1 (fun (x : Int) => [toV1 tI x]) (fun (y : Bool) => [toV1 .bool y]) F1) (K : Int → Prop) (h : VC52 sv F1 K) : ACalls Try.prog 52 [toV1 (.sl tI) sv, .c (.fn fv1 cv1)] (fun res => ∃ y, res = (fun y => [toV1 tI y]) y ∧ K y) := by
 refine acalls_of_aw [tI] [.t 4] Try.func52 rfl rfl rfl ?_
 unfold VC52 at h
 refine qS 1 ⟨19, [s1 0 (.pS sv), s1 1 (.fn fv1 cv1)], []⟩ (aw_seq (qS 3 ⟨19, [s1 0 (.pS sv), s1 1 (.fn fv1 cv1), e52_0 sv, sI 8 (0 : Int)], []⟩ (withJoin (σ := Unit) (fun s => ⟨19, [], []⟩) (fun s => VC52_k1 K) (fun s h => ?_) (fun rest1 => ?_))))
 ·have h : VC52_k1 K := h
  unfold VC52_k1 at h
  exact thenQ_n (qS 1 ⟨19, [sI 4 (-1 : Int)], []⟩ (aw_ret (qE 1 h)))
 ·refine aw_block (aw_loop (σ := Int) (fun s => ⟨19, [s1 0 (.pS sv), s1 1 (.fn fv1 cv1), e52_0 sv, sI 8 s], []⟩) (fun s X => VC52_l1 sv F1 K s X) (s0 := (0 : Int)) (fun v8 X1 h => ?_) h)
  have h : VC52_l1 sv F1 K v8 X1 := h
  unfold VC52_l1 at h
  refine qS 1 ⟨19, [s1 0 (.pS sv), s1 1 (.fn fv1 cv1), e52_0 sv, sI 8 v8, sB 9 (decide (v8 < (sv.length : Int)))], []⟩ (aw_seq (qI h (fun h => ?_) fun h => ?_))
  ·refine aw_skip (thenQ_n (aw_seq (aw_block (sr (qT 2 ⟨19, [s1 0 (.pS sv), s1 1 (.fn fv1 cv1), sI 5 v8, e52_0 sv, sI 8 v8], []⟩ (nsr (qA 5 3 1 ⟨19, [s1 0 (.pS sv), s1 1 (.fn fv1 cv1), sI 5 v8, e52_0 sv, sI 8 v8, s1 11 (.fn fv1 cv1), sI 15 (sv.getD (v8).toNat (0 : Int))], []⟩ h fun h => qK 16 [.d tI] (fun ret16v => ⟨19, [s1 0 (.pS sv), s1 1 (.fn fv1 cv1), sI 5 v8, e52_0 sv, sI 8 v8, sB 16 ret16v], []⟩) hF1.1 (hF1.2 (sv.getD (v8).toNat (0 : Int)) _ h) fun ret16v h => ?_)))))))
   refine nn (qI h (fun h => ?_) fun h => ?_)
   ·exact qS 2 ⟨19, [sI 4 v8], []⟩ (aw_ret (blockQ_r (thenQ_r (thenQ_r (blockQ_r (thenQ_r (qE 1 h)))))))
   ·exact aw_skip (blockQ_n (thenQ_n (aw_region (qA 2 0 1 ⟨19, [s1 0 (.pS sv), s1 1 (.fn fv1 cv1), e52_0 sv, sI 8 (v8 + (1 : Int))], []⟩ h fun h => awl_nil (thenQ_n ⟨(v8 + (1 : Int)), rfl, h⟩)))))
  ·exact qC ⟨19, [], []⟩ (aw_exit (thenQ_x (thenQ_x (blockQ_hit (rest1 () h)))))
-- slices.ContainsFunc[[]int,int]
def VC27 (sv : LI) (F1 : Int → (Bool → Prop) → Prop) (K : Bool → Prop) : Prop :=
  VC52 sv F1 (fun (ret7v : Int) => K (decide ((0 : Int) ≤ ret7v)))
theorem link27 (sv : LI) (fv1 : FuncId) (cv1 : List Dat) (F1 : Int → (Bool → Prop) → Prop) (hF1 : FnIs Try.prog fv1 cv1 (fun (x : Int) => [toV1 tI x]) (fun (y : Bool) => [toV1 .bool y]) F1) (K : Bool → Prop) (h : VC27 sv F1 K) : ACalls Try.prog 27 [toV1 (.sl tI) sv, .c (.fn fv1 cv1)] (fun res => ∃ y, res = (fun y => [toV1 .bool y]) y ∧ K y) := by
 refine acalls_of_aw [.bool] [.t 4] Try.func27 rfl rfl rfl ?_
 unfold VC27 at h
 refine sr (qT 1 ⟨9, [s1 0 (.pS sv), s1 1 (.fn fv1 cv1)], []⟩ (nsr (qT 2 ⟨9, [s1 5 (.pS sv), s1 6 (.fn fv1 cv1)], []⟩ (qK 7 [.d (.sl tI), .fn] (fun ret7v => ⟨9, [sI 7 ret7v], []⟩) Try.call52 (link52 sv fv1 cv1 F1 hF1 _ h) fun ret7v h => ?_))))
 exact qT 2 ⟨9, [sB 4 (decide ((0 : Int) ≤ ret7v))], []⟩ (nn (aw_ret (qE 1 h)))
abbrev e51_0 (g : TG) := hB 2 [.pI g.1, .pI g.2.1, .pI g.2.2.1, .p (.sl tR) g.2.2.2]
-- coppicer/grammar.IsSigns
def VC51 (g : TG) (l : LI) (K : Bool → Prop) : Prop :=
  VC27 l (fun (x : Int) (K : Bool → Prop) => VC67 x g K) (fun (ret7v : Bool) => K (!ret7v))
theorem link51 (g : TG) (l : LI) (K : Bool → Prop) (h : VC51 g l K) : ACalls Try.prog 51 [toV1 tG g, toV1 (.sl tI) l] (fun res => ∃ y, res = (fun y => [toV1 .bool y]) y ∧ K y) := by
 refine acalls_of_aw [.bool] [.t 4] Try.func51 rfl rfl rfl ?_
 unfold VC51 at h
 refine sr (qT 2 ⟨9, [s1 1 (.pS l), sp 2 2], [e51_0 g]⟩ (nsr (qT 1 ⟨9, [sp 2 2, s1 5 (.pS l)], [e51_0 g]⟩ (qW [.freezeB 2 tG] ⟨9, [s1 2 (.ad tG g), s1 5 (.pS l)], []⟩ (qT 1 ⟨9, [s1 5 (.pS l), s1 6 (.fn 67 [(⟨tG, g⟩ : Dat)])], []⟩ (qK 7 [.d (.sl tI), .fn] (fun ret7v => ⟨9, [sB 7 ret7v], []⟩) Try.call27 (link27 l 67 [(⟨tG, g⟩ : Dat)] (fun (x : Int) (K : Bool → Prop) => VC67 x g K) ⟨Try.call67, fun x K h => link67 x g K h⟩ _ h) fun ret7v h => ?_))))))
 exact qT 2 ⟨9, [sB 4 (!ret7v)], []⟩ (nn (aw_ret (qE 1 h)))
abbrev e26_0 (g : TG) := hB 1 [.pI g.1, .pI g.2.1, .pI g.2.2.1, .p (.sl tR) g.2.2.2]
abbrev e26_1 (g : TG) := s1 36 (.p (.sl tR) g.2.2.2)
abbrev e26_2 (g : TG) (v38 : Int) := hB 5 [.pI ((g.2.2.2.getD (v38).toNat zqb).1), .pS ((g.2.2.2.getD (v38).toNat zqb).2)]
abbrev e26_3 := s1 3 (.fn 49 [])
abbrev e26_4 (g : TG) := sI 37 (g.2.2.2.length : Int)
-- coppicer/grammar.Check
def VC26_k1 (K : Int → Prop) : Prop :=
  K (0 : Int)
def VC26_l1 (g : TG) (K : Int → Prop) (v38 : Int) (X1 : Int → Prop) : Prop :=
  (((decide (v38 < (g.2.2.2.length : Int))) = true → (inIdx v38 g.2.2.2.length ∧ (InR (g.2.1 - (1 : Int)) ∧ VC49 ((g.2.2.2.getD (v38).toNat ((0 : Int), ([] : LI))).1) (0 : Int) (g.2.1 - (1 : Int)) (fun (ret48v : Bool) => gcall (α := Bool) (!(!ret48v)) (VC51 g ((g.2.2.2.getD (v38).toNat ((0 : Int), ([] : LI))).2)) false (fun (ret54v : Bool) => ((((!ret48v) || (!ret54v)) = true → K (2 : Int)) ∧ (((!ret48v) || (!ret54v)) = false → (InR (v38 + (1 : Int)) ∧ X1 (v38 + (1 : Int)))))))))) ∧ ((decide (v38 < (g.2.2.2.length : Int))) = false → VC26_k1 K))
def VC26 (g : TG) (K : Int → Prop) : Prop :=
  VC49 g.1 (1 : Int) (3 : Int) (fun (ret9v : Bool) => gcall (α := Bool) (!(!ret9v)) (VC49 g.2.1 (1 : Int) (5 : Int)) false (fun (ret15v : Bool) => (((((!ret9v) || (!ret15v)) || (decide ((10 : Int) < (g.2.2.2.length : Int)))) = true → K (1 : Int)) ∧ ((((!ret9v) || (!ret15v)) || (decide ((10 : Int) < (g.2.2.2.length : Int)))) = false → VC31 g.2.2.2 (fun (x : (Int × LI)) (K : Bool → Prop) => VC50 x K) (fun (ret26v : Bool) => ((ret26v = true → K (1 : Int)) ∧ (ret26v = false → (InR (g.2.1 - (1 : Int)) ∧ VC49 g.2.2.1 (0 : Int) (g.2.1 - (1 : Int)) (fun (ret33v : Bool) => (((!ret33v) = true → K (2 : Int)) ∧ ((!ret33v) = false → Loop (σ := Int) (fun s X => VC26_l1 g K s X) (0 : Int))))))))))))
abbrev aix0 (g : TG) (v38 : Int) := g.2.2.2.getD (v38).toNat zqb
abbrev aix1 (ret9v ret15v : Bool) (g : TG) := ((!ret9v) || (!ret15v)) || (decide ((10 : Int) < (g.2.2.2.length : Int)))
theorem link26 (g : TG) (K : Int → Prop) (h : VC26 g K) : ACalls Try.prog 26 [toV1 tG g] (fun res => ∃ y, res = (fun y => [toV1 tI y]) y ∧ K y) := by
 refine acalls_of_aw [tI] [.t 2] Try.func26 rfl rfl rfl ?_
 unfold VC26 at h
 refine sr (qT 2 ⟨58, [sp 1 1], [e26_0 g]⟩ (nsr (qT 1 ⟨58, [sp 1 1, e26_3], [e26_0 g]⟩ (nn (aw_seq (sr (qT 3 ⟨58, [sp 1 1, e26_3, s1 6 (.fn 49 []), sI 8 g.1], [e26_0 g]⟩ (qK 9 [.d tI, .d tI, .d tI] (fun ret9v => ⟨58, [sp 1 1, e26_3, sB 9 ret9v], [e26_0 g]⟩) Try.call49 (link49 g.1 (1 : Int) (3 : Int) _ h) fun ret9v h => ?_))))))))
 refine qR 5 ⟨58, [sp 1 1, e26_3, sB 11 (!ret9v), (12, [(11, false)], .v (.c (.fn 49 []))), (14, [(11, false)], .v (.c (.pI g.2.1)))], [e26_0 g]⟩ (ob := Ts 2 (Ti 3 ((!ret9v) = false → True) True)) (tsI 2 (tiI 3 (fun _ => trivial) trivial)) ?_
 refine awl_callk (p := [(11, false)]) (l := [toV1 tI g.2.1, toV1 tI (1 : Int), toV1 tI (5 : Int)]) (cl := []) false [.d tI, .d tI, .d tI] [1, 3, 11, 15] [1] (fun (ret15v : Bool) => (((aix1 ret9v ret15v g) = true → K (1 : Int)) ∧ ((aix1 ret9v ret15v g) = false → VC31 g.2.2.2 (fun (x : (Int × LI)) (K : Bool → Prop) => VC50 x K) (fun (ret26v : Bool) => ((ret26v = true → K (1 : Int)) ∧ (ret26v = false → (InR (g.2.1 - (1 : Int)) ∧ VC49 g.2.2.1 (0 : Int) (g.2.1 - (1 : Int)) (fun (ret33v : Bool) => (((!ret33v) = true → K (2 : Int)) ∧ ((!ret33v) = false → Loop (σ := Int) (fun s X => VC26_l1 g K s X) (0 : Int))))))))))) (fun ret15v => [toV1 .bool ret15v]) (fun ret15v => ⟨58, [sp 1 1, e26_3, sB 11 (!ret9v), (15, [(11, false)], .v (.c (.pB ret15v)))], [e26_0 g]⟩) (by kernel_rfl) rfl (by kernel_rfl) rfl (by kernel_rfl) Try.call49 (by kernel_rfl) (fun ret15v => by kernel_rfl) (fun e => by cases e) (fun hg => link49 g.2.1 (1 : Int) (5 : Int) _ (by have := gcall_T h (show (!(!ret9v)) = true from hg); exact this)) (fun hg => ⟨false, by have := gcall_F h (show (!(!ret9v)) = false from hg); exact this⟩) (fun ret15v h => ?_)
 refine qR 8 ⟨58, [sp 1 1, e26_3, sB 23 (aix1 ret9v ret15v g)], [e26_0 g]⟩ (ob := ((!ret9v) = false → True) ∧ Ts 2 (Ti 4 (((!ret9v) || (!ret15v)) = false → True) (Ts 1 True))) (⟨(fun _ => trivial), tsI 2 (tiI 4 (fun _ => trivial) (tsI 1 trivial))⟩) ?_
 refine nn (qI h (fun h => ?_) fun h => ?_)
 ·exact qS 1 ⟨58, [sI 2 (1 : Int)], []⟩ (aw_ret (thenQ_r (qE 1 h)))
 ·refine aw_skip (thenQ_n (aw_seq (sr (qT 2 ⟨58, [sp 1 1, e26_3, s1 25 (.p (.sl tR) g.2.2.2)], [e26_0 g]⟩ (qK 26 [.d (.sl tR), .fn] (fun ret26v => ⟨58, [sp 1 1, e26_3, sB 26 ret26v], [e26_0 g]⟩) Try.call31 (link31 g.2.2.2 50 [] (fun (x : (Int × LI)) (K : Bool → Prop) => VC50 x K) ⟨Try.call50, fun x K h => link50 x K h⟩ _ h) fun ret26v h => ?_)))))
  refine nn (qI h (fun h => ?_) fun h => ?_)
  ·exact qS 1 ⟨58, [sI 2 (1 : Int)], []⟩ (aw_ret (thenQ_r (qE 1 h)))
  ·refine aw_skip (thenQ_n (aw_seq (sr (qA 6 5 0 ⟨58, [sp 1 1, e26_3, s1 27 (.fn 49 []), sI 29 g.2.2.1, sI 32 (g.2.1 - (1 : Int))], [e26_0 g]⟩ h fun h => qK 33 [.d tI, .d tI, .d tI] (fun ret33v => ⟨58, [sp 1 1, e26_3, sB 33 ret33v], [e26_0 g]⟩) Try.call49 (link49 g.2.2.1 (0 : Int) (g.2.1 - (1 : Int)) _ h) fun ret33v h => ?_))))
   refine qT 1 ⟨58, [sp 1 1, e26_3, sB 34 (!ret33v)], [e26_0 g]⟩ (nn (qI h (fun h => ?_) fun h => ?_))
   ·exact qS 1 ⟨58, [sI 2 (2 : Int)], []⟩ (aw_ret (thenQ_r (qE 1 h)))
   ·refine aw_skip (thenQ_n (aw_seq (qS 4 ⟨58, [sp 1 1, e26_3, e26_1 g, e26_4 g, sI 38 (0 : Int)], [e26_0 g]⟩ (withJoin (σ := Unit) (fun s => ⟨58, [], []⟩) (fun s => VC26_k1 K) (fun s h => ?_) (fun rest1 => ?_)))))
    ·have h : VC26_k1 K := h
     unfold VC26_k1 at h
     exact thenQ_n (qS 1 ⟨58, [sI 2 (0 : Int)], []⟩ (aw_ret (qE 1 h)))
    ·refine aw_block (aw_loop (σ := Int) (fun s => ⟨58, [sp 1 1, e26_3, e26_1 g, e26_4 g, sI 38 s], [e26_0 g]⟩) (fun s X => VC26_l1 g K s X) (s0 := (0 : Int)) (fun v38 X1 h => ?_) h)
     have h : VC26_l1 g K v38 X1 := h
     unfold VC26_l1 at h
     refine qS 1 ⟨58, [sp 1 1, e26_3, e26_1 g, e26_4 g, sI 38 v38, sB 39 (decide (v38 < (g.2.2.2.length : Int)))], [e26_0 g]⟩ (aw_seq (qI h (fun h => ?_) fun h => ?_))
     ·refine aw_skip (thenQ_n (aw_seq (aw_block (sr (qA 4 0 3 ⟨58, [sp 1 1, e26_3, sp 5 5, e26_1 g, e26_4 g, sI 38 v38], [e26_0 g, e26_2 g v38]⟩ h fun h => nsr (qA 6 5 0 ⟨58, [sp 1 1, e26_3, sp 5 5, e26_1 g, e26_4 g, sI 38 v38, s1 42 (.fn 49 []), sI 44 ((aix0 g v38).1), sI 47 (g.2.1 - (1 : Int))], [e26_0 g, e26_2 g v38]⟩ h fun h => qK 48 [.d tI, .d tI, .d tI] (fun ret48v => ⟨58, [sp 1 1, e26_3, sp 5 5, e26_1 g, e26_4 g, sI 38 v38, sB 48 ret48v], [e26_0 g, e26_2 g v38]⟩) Try.call49 (link49 ((aix0 g v38).1) (0 : Int) (g.2.1 - (1 : Int)) _ h) fun ret48v h => ?_))))))
      refine qR 5 ⟨58, [sp 1 1, e26_3, e26_1 g, e26_4 g, sI 38 v38, sB 50 (!ret48v), (51, [(50, false)], .v (.agg [.pI g.1, .pI g.2.1, .pI g.2.2.1, .p (.sl tR) g.2.2.2])), (53, [(50, false)], .v (.c (.pS ((aix0 g v38).2))))], [e26_0 g]⟩ (ob := Ts 2 (Ti 3 ((!ret48v) = false → True) True)) (tsI 2 (tiI 3 (fun _ => trivial) trivial)) ?_
      refine awl_callk (p := [(50, false)]) (l := [toV1 tG g, toV1 (.sl tI) ((aix0 g v38).2)]) (cl := []) false [.d tG, .d (.sl tI)] [1, 3, 36, 37, 38, 50, 54] [1] (fun (ret54v : Bool) => ((((!ret48v) || (!ret54v)) = true → K (2 : Int)) ∧ (((!ret48v) || (!ret54v)) = false → (InR (v38 + (1 : Int)) ∧ X1 (v38 + (1 : Int)))))) (fun ret54v => [toV1 .bool ret54v]) (fun ret54v => ⟨58, [sp 1 1, e26_3, e26_1 g, e26_4 g, sI 38 v38, sB 50 (!ret48v), (54, [(50, false)], .v (.c (.pB ret54v)))], [e26_0 g]⟩) (by kernel_rfl) rfl (by kernel_rfl) rfl (by kernel_rfl) Try.call51 (by kernel_rfl) (fun ret54v => by kernel_rfl) (fun e => by cases e) (fun hg => link51 g ((aix0 g v38).2) _ (by have := gcall_T h (show (!(!ret48v)) = true from hg); exact this)) (fun hg => ⟨false, by have := gcall_F h (show (!(!ret48v)) = false from hg); exact this⟩) (fun ret54v h => ?_)
      refine qR 2 ⟨58, [sp 1 1, e26_3, e26_1 g, e26_4 g, sI 38 v38, sB 56 ((!ret48v) || (!ret54v))], [e26_0 g]⟩ (ob := ((!ret48v) = false → True) ∧ Ts 1 True) (⟨(fun _ => trivial), tsI 1 trivial⟩) ?_
      refine nn (qI h (fun h => ?_) fun h => ?_)
      ·exact qS 1 ⟨58, [sI 2 (2 : Int)], []⟩ (aw_ret (blockQ_r (thenQ_r (thenQ_r (blockQ_r (thenQ_r (qE 1 h)))))))
      ·exact aw_skip (blockQ_n (thenQ_n (aw_region (qA 2 0 1 ⟨58, [sp 1 1, e26_3, e26_1 g, e26_4 g, sI 38 (v38 + (1 : Int))], [e26_0 g]⟩ h fun h => awl_nil (thenQ_n ⟨(v38 + (1 : Int)), rfl, h⟩)))))
     ·exact qC ⟨58, [], []⟩ (aw_exit (thenQ_x (thenQ_x (blockQ_hit (rest1 () h)))))
-- coppicer/machine.within
def VC56 (n low high : Int) (K : Bool → Prop) : Prop :=
  K ((decide (low ≤ n)) && (decide (n ≤ high)))
theorem link56 (n low high : Int) (K : Bool → Prop) (h : VC56 n low high K) : ACalls Try.prog 56 [toV1 tI n, toV1 tI low, toV1 tI high] (fun res => ∃ y, res = (fun y => [toV1 .bool y]) y ∧ K y) := by
 refine acalls_of_aw [.bool] [.t 6] Try.func56 rfl rfl rfl ?_
 unfold VC56 at h
 refine sr (qT 1 ⟨15, [sI 0 n, sI 1 low, sI 2 high], []⟩ (nsr (qR 9 ⟨15, [sB 6 ((decide (low ≤ n)) && (decide (n ≤ high)))], []⟩ (ob := Ts 4 (Ti 3 ((decide (low ≤ n)) = true → True) (Ts 2 True))) (tsI 4 (tiI 3 (fun _ => trivial) (tsI 2 trivial))) ?_)))
 exact nn (aw_ret (qE 1 h))
-- coppicer/machine.Word$1
def VC55 (sv a1 : Int) (K : Bool → Prop) : Prop :=
  (InR (a1 - (1 : Int)) ∧ VC56 sv (0 : Int) (a1 - (1 : Int)) (fun (ret7v : Bool) => K (!ret7v)))
theorem link55 (sv a1 : Int) (K : Bool → Prop) (h : VC55 sv a1 K) : ACalls Try.prog 55 [toV1 tI sv, .c (.ad tI a1)] (fun res => ∃ y, res = (fun y => [toV1 .bool y]) y ∧ K y) := by
 refine acalls_of_aw [.bool] [.t 3] Try.func55 rfl rfl rfl ?_
 unfold VC55 at h
 refine sr (qT 1 ⟨9, [sI 0 sv, s1 1 (.ad tI a1)], []⟩ (nsr (qA 3 2 0 ⟨9, [sI 4 sv, sI 6 (a1 - (1 : Int))], []⟩ h fun h => qK 7 [.d tI, .d tI, .d tI] (fun ret7v => ⟨9, [sB 7 ret7v], []⟩) Try.call56 (link56 sv (0 : Int) (a1 - (1 : Int)) _ h) fun ret7v h => ?_)))
 exact qT 2 ⟨9, [sB 3 (!ret7v)], []⟩ (nn (aw_ret (qE 1 h)))
-- coppicer/machine.Word
def VC30 (k : Int) (w : LI) (K : Int → Prop) : Prop :=
  (((decide ((12 : Int) < (w.length : Int))) = true → K (1 : Int)) ∧ ((decide ((12 : Int) < (w.length : Int))) = false → VC27 w (fun (x : Int) (K : Bool → Prop) => VC55 x k K) (fun (ret10v : Bool) => ((ret10v = true → K (2 : Int)) ∧ (ret10v = false → K (0 : Int))))))
theorem link30 (k : Int) (w : LI) (K : Int → Prop) (h : VC30 k w K) : ACalls Try.prog 30 [toV1 tI k, toV1 (.sl tI) w] (fun res => ∃ y, res = (fun y => [toV1 tI y]) y ∧ K y) := by
 refine acalls_of_aw [tI] [.t 4] Try.func30 rfl rfl rfl ?_
 unfold VC30 at h
 refine qS 2 ⟨11, [s1 1 (.pS w), sp 2 2], [hB 2 [.pI k]]⟩ (aw_seq (qS 3 ⟨11, [s1 1 (.pS w), sp 2 2, sB 7 (decide ((12 : Int) < (w.length : Int)))], [hB 2 [.pI k]]⟩ (qI h (fun h => ?_) fun h => ?_)))
 ·exact qS 1 ⟨11, [sI 4 (1 : Int)], []⟩ (aw_ret (thenQ_r (qE 1 h)))
 ·refine aw_skip (thenQ_n (aw_seq (sr (qT 1 ⟨11, [sp 2 2, s1 8 (.pS w)], [hB 2 [.pI k]]⟩ (qW [.freezeB 2 tI] ⟨11, [s1 2 (.ad tI k), s1 8 (.pS w)], []⟩ (qT 1 ⟨11, [s1 8 (.pS w), s1 9 (.fn 55 [(⟨tI, k⟩ : Dat)])], []⟩ (qK 10 [.d (.sl tI), .fn] (fun ret10v => ⟨11, [sB 10 ret10v], []⟩) Try.call27 (link27 w 55 [(⟨tI, k⟩ : Dat)] (fun (x : Int) (K : Bool → Prop) => VC55 x k K) ⟨Try.call55, fun x K h => link55 x k K h⟩ _ h) fun ret10v h => ?_)))))))
  refine nn (qI h (fun h => ?_) fun h => ?_)
  ·exact qS 1 ⟨11, [sI 4 (2 : Int)], []⟩ (aw_ret (thenQ_r (qE 1 h)))
  ·exact aw_skip (thenQ_n (qS 1 ⟨11, [sI 4 (0 : Int)], []⟩ (aw_ret (qE 1 h))))
abbrev e12_0 (g : TG) := hB 2 [.pI g.1, .pI g.2.1, .pI g.2.2.1, .p (.sl tR) g.2.2.2]
-- coppicer/table.Check
def VC12 (g : TG) (w : LI) (K : Int → Prop) : Prop :=
  VC26 g (fun (ret7v : Int) => (((!decide (ret7v = (0 : Int))) = true → K ret7v) ∧ ((!decide (ret7v = (0 : Int))) = false → VC30 g.1 w (fun (ret14v : Int) => K ret14v))))
theorem link12 (g : TG) (w : LI) (K : Int → Prop) (h : VC12 g w K) : ACalls Try.prog 12 [toV1 tG g, toV1 (.sl tI) w] (fun res => ∃ y, res = (fun y => [toV1 tI y]) y ∧ K y) := by
 refine acalls_of_aw [tI] [.t 4] Try.func12 rfl rfl rfl ?_
 unfold VC12 at h
 refine qS 2 ⟨15, [s1 1 (.pS w), sp 2 2], [e12_0 g]⟩ (aw_seq (sr (qT 1 ⟨15, [s1 1 (.pS w), sp 2 2, sA 6 [.pI g.1, .pI g.2.1, .pI g.2.2.1, .p (.sl tR) g.2.2.2]], [e12_0 g]⟩ (qK 7 [.d tG] (fun ret7v => ⟨15, [s1 1 (.pS w), sp 2 2, sI 7 ret7v], [e12_0 g]⟩) Try.call26 (link26 g _ h) fun ret7v h => ?_))))
 refine qT 1 ⟨15, [s1 1 (.pS w), sp 2 2, sI 5 ret7v], [e12_0 g]⟩ (nsr (qT 2 ⟨15, [s1 1 (.pS w), sp 2 2, sI 5 ret7v, sB 9 (!decide (ret7v = (0 : Int)))], [e12_0 g]⟩ (nn (qI h (fun h => ?_) fun h => ?_))))
 ·exact qS 2 ⟨15, [sI 4 ret7v], []⟩ (aw_ret (thenQ_r (qE 1 h)))
 ·refine aw_skip (thenQ_n (sr (qT 3 ⟨15, [sI 12 g.1, s1 13 (.pS w)], []⟩ (qK 14 [.d tI, .d (.sl tI)] (fun ret14v => ⟨15, [sI 14 ret14v], []⟩) Try.call30 (link30 g.1 w _ h) fun ret14v h => ?_))))
  exact qT 1 ⟨15, [sI 4 ret14v], []⟩ (nn (aw_ret (qE 1 h)))
-- coppicer/grammar.Proper$1
def VC32 (rv : (Int × LI)) (a1 : TG) (K : Bool → Prop) : Prop :=
  (((decide ((rv.2.length : Int) = (0 : Int))) = false → ((decide ((rv.2.length : Int) = (1 : Int))) = true → inIdx (0 : Int) rv.2.length)) ∧ K ((decide ((rv.2.length : Int) = (0 : Int))) || ((decide ((rv.2.length : Int) = (1 : Int))) && (decide (a1.1 ≤ (rv.2.getD ((0 : Int)).toNat (0 : Int)))))))
abbrev anx0 (rv : (Int × LI)) := decide ((rv.2.length : Int) = (0 : Int))
abbrev anx1 (rv : (Int × LI)) := decide ((rv.2.length : Int) = (1 : Int))
theorem link32 (rv : (Int × LI)) (a1 : TG) (K : Bool → Prop) (h : VC32 rv a1 K) : ACalls Try.prog 32 [toV1 tR rv, .c (.ad tG a1)] (fun res => ∃ y, res = (fun y => [toV1 .bool y]) y ∧ K y) := by
 refine acalls_of_aw [.bool] [.t 3] Try.func32 rfl rfl rfl ?_
 refine qS 2 ⟨23, [s1 1 (.ad tG a1), sp 2 2], [hB 2 [.pI rv.1, .pS rv.2]]⟩ (aw_seq (awd_begin [] (by kernel_rfl) ?_))
 obtain ⟨o1, h⟩ := h
 refine qD [0, 1, 2, 3, 4, 5, 6, 7, 8, 9, 10, 11, 12, 13, 14, 15, 16, 17, 18, 19] [19, 18, 17, 16, 15, 14, 13, 12, 11, 10, 9, 8, 7, 6, 5, 4, 3, 2, 1, 0] ⟨23, [sB 3 ((anx0 rv) || ((anx1 rv) && (decide (a1.1 ≤ (rv.2.getD ((0 : Int)).toNat (0 : Int))))))], []⟩ (ob := Ts 5 (Ti 5 ((anx0 rv) = false → True) (((anx0 rv) = false → ((anx1 rv) = true → True)) ∧ ((anx0 rv) = false → ((anx1 rv) = true → True)) ∧ ((anx0 rv) = false → ((anx1 rv) = true → inIdx (0 : Int) rv.2.length)) ∧ ((anx0 rv) = false → ((anx1 rv) = true → True)) ∧ ((anx0 rv) = false → ((anx1 rv) = true → True)) ∧ ((anx0 rv) = false → ((anx1 rv) = true → True)) ∧ ((anx0 rv) = false → ((anx1 rv) = true → True)) ∧ ((anx0 rv) = false → True) ∧ Ts 2 True))) (tsI 5 (tiI 5 (fun _ => trivial) (tiI 2 (fun _ _ => trivial) (⟨o1, tiI 4 (fun _ _ => trivial) ⟨(fun _ => trivial), tsI 2 trivial⟩⟩)))) ?_
 refine awd_done (by kernel_rfl) ?_
 exact thenQ_n (aw_ret (qE 1 h))
abbrev e13_0 (g : TG) := hB 1 [.pI g.1, .pI g.2.1, .pI g.2.2.1, .p (.sl tR) g.2.2.2]
abbrev e13_1 (g : TG) := s1 4 (.p (.sl tR) g.2.2.2)
-- coppicer/grammar.Proper
def VC13 (g : TG) (K : Bool → Prop) : Prop :=
  VC31 g.2.2.2 (fun (x : (Int × LI)) (K : Bool → Prop) => VC32 x g K) (fun (ret6v : Bool) => K (!ret6v))
theorem link13 (g : TG) (K : Bool → Prop) (h : VC13 g K) : ACalls Try.prog 13 [toV1 tG g] (fun res => ∃ y, res = (fun y => [toV1 .bool y]) y ∧ K y) := by
 refine acalls_of_aw [.bool] [.t 2] Try.func13 rfl rfl rfl ?_
 unfold VC13 at h
 refine sr (qT 2 ⟨8, [sp 1 1], [e13_0 g]⟩ (nsr (qT 2 ⟨8, [sp 1 1, e13_1 g], [e13_0 g]⟩ (qW [.freezeB 1 tG] ⟨8, [s1 1 (.ad tG g), e13_1 g], []⟩ (qT 1 ⟨8, [e13_1 g, s1 5 (.fn 32 [(⟨tG, g⟩ : Dat)])], []⟩ (qK 6 [.d (.sl tR), .fn] (fun ret6v => ⟨8, [sB 6 ret6v], []⟩) Try.call31 (link31 g.2.2.2 32 [(⟨tG, g⟩ : Dat)] (fun (x : (Int × LI)) (K : Bool → Prop) => VC32 x g K) ⟨Try.call32, fun x K h => link32 x g K h⟩ _ h) fun ret6v h => ?_))))))
 exact qT 2 ⟨8, [sB 2 (!ret6v)], []⟩ (nn (aw_ret (qE 1 h)))
-- coppicer/machine.Has
def VC15 (setv n : Int) (K : Bool → Prop) : Prop :=
  ((0 ≤ setv ∧ 0 ≤ n) ∧ K (decide ((bAnd .u32 (bShr .u32 setv n) (1 : Int)) = (1 : Int))))
theorem link15 (setv n : Int) (K : Bool → Prop) (h : VC15 setv n K) : ACalls Try.prog 15 [toV1 (.int .u32) setv, toV1 tI n] (fun res => ∃ y, res = (fun y => [toV1 .bool y]) y ∧ K y) := by
 refine acalls_of_aw [.bool] [.t 4] Try.func15 rfl rfl rfl ?_
 unfold VC15 at h
 exact sr (qT 1 ⟨10, [s1 0 (.pW setv), sI 1 n], []⟩ (nsr (qA 6 2 3 ⟨10, [sB 4 (decide ((bAnd .u32 (bShr .u32 setv n) (1 : Int)) = (1 : Int)))], []⟩ h fun h => nn (aw_ret (qE 1 h)))))
abbrev e58_0 (g : TG) := hB 6 [.pI g.1, .pI g.2.1, .pI g.2.2.1, .p (.sl tR) g.2.2.2]
-- (coppicer/table.Spans).Derives
def VC58 (sv : Lqc) (g : TG) (w : LI) (sign : Int) (rv : (Int × Int)) (K : Bool → Prop) : Prop :=
  (((decide (sign < g.1)) = true → (InR (rv.1 + (1 : Int)) ∧ ((decide (rv.2 = (rv.1 + (1 : Int)))) = true → inIdx rv.1 w.length) ∧ K ((decide (rv.2 = (rv.1 + (1 : Int)))) && (decide ((w.getD (rv.1).toNat (0 : Int)) = sign))))) ∧ ((decide (sign < g.1)) = false → (InR (sign - g.1) ∧ VC15 ((mget sv rv).getD (0 : Int)) (sign - g.1) (fun (ret37v : Bool) => K ret37v))))
theorem link58 (sv : Lqc) (g : TG) (w : LI) (sign : Int) (rv : (Int × Int)) (K : Bool → Prop) (h : VC58 sv g w sign rv K) : ACalls Try.prog 58 [toV1 (.mp (.pr tI tI) (.int .u32)) sv, toV1 tG g, toV1 (.sl tI) w, toV1 tI sign, toV1 (.pr tI tI) rv] (fun res => ∃ y, res = (fun y => [toV1 .bool y]) y ∧ K y) := by
 refine acalls_of_aw [.bool] [.t 10] Try.func58 rfl rfl rfl ?_
 unfold VC58 at h
 refine qS 3 ⟨38, [s1 0 (.p (.mp (.pr tI tI) (.int .u32)) sv), s1 2 (.pS w), sI 3 sign, sp 6 6, sp 9 9], [e58_0 g, hB 9 [.pI rv.1, .pI rv.2]]⟩ (aw_seq (qS 4 ⟨38, [s1 0 (.p (.mp (.pr tI tI) (.int .u32)) sv), s1 2 (.pS w), sI 3 sign, sp 6 6, sp 9 9, sB 14 (decide (sign < g.1))], [e58_0 g, hB 9 [.pI rv.1, .pI rv.2]]⟩ (qI h (fun h => ?_) fun h => ?_)))
 ·refine sr ?_
  obtain ⟨o1, o2, h⟩ := h
  refine qR 16 ⟨38, [sB 10 ((decide (rv.2 = (rv.1 + (1 : Int)))) && (decide ((w.getD (rv.1).toNat (0 : Int)) = sign)))], []⟩ (ob := Ts 4 (InR (rv.1 + (1 : Int)) ∧ Ts 2 (Ti 3 ((decide (rv.2 = (rv.1 + (1 : Int)))) = true → True) (((decide (rv.2 = (rv.1 + (1 : Int)))) = true → inIdx rv.1 w.length) ∧ Ti 3 ((decide (rv.2 = (rv.1 + (1 : Int)))) = true → True) (Ts 2 True))))) (tsI 4 (⟨o1, tsI 2 (tiI 3 (fun _ => trivial) ⟨o2, tiI 3 (fun _ => trivial) (tsI 2 trivial)⟩)⟩)) ?_
  exact nn (aw_ret (thenQ_r (qE 1 h)))
 ·refine aw_skip (thenQ_n (aw_seq (awd_begin [] (by kernel_rfl) ?_)))
  obtain ⟨o1, h⟩ := h
  refine qDO 6 0 [0, 1, 2, 3, 4, 5, 6] [6, 5, 4, 3, 2, 1, 0] ⟨38, [s1 32 (.pW ((mget sv rv).getD (0 : Int))), sI 36 (sign - g.1)], []⟩ o1 (awd_one (i := 7) (by kernel_rfl) ?_)
  refine dcq (d := 37) [.d (.int .u32), .d tI] (fun ret37v => ⟨38, [sB 37 ret37v], []⟩) rfl (by kernel_rfl) Try.call15 (fun _ => by kernel_rfl) (link15 ((mget sv rv).getD (0 : Int)) (sign - g.1) _ h) (fun ret37v h => (qDT 1 [8] [8, 7, 6, 5, 4, 3, 2, 1, 0] ⟨38, [sB 10 ret37v], []⟩ (awd_done (by kernel_rfl) ?_)))
  exact thenQ_n (aw_ret (qE 1 h))
abbrev e33_0 (g : TG) := hB 6 [.pI g.1, .pI g.2.1, .pI g.2.2.1, .p (.sl tR) g.2.2.2]
abbrev e33_1 (sv : Lqc) := s1 0 (.p (.mp (.pr tI tI) (.int .u32)) sv)
abbrev e33_2 (signs : LI) (v21 : Int) := sI 13 (signs.getD (v21).toNat (0 : Int))
abbrev e33_3 (signs : LI) := sI 20 (signs.length : Int)
abbrev e33_4 (signs : LI) := s1 19 (.pS signs)
abbrev e33_5 (setv : Int) := s1 11 (.pW setv)
abbrev e33_6 (w : LI) := s1 2 (.pS w)
-- (coppicer/table.Spans).Ends
def VC33_k1 (K : Int → Prop) (setv : Int) : Prop :=
  K setv
def VC33_k2 (v21 : Int) (X1 : Int × Int → Prop) (next : Int) : Prop :=
  (InR (v21 + (1 : Int)) ∧ X1 (next, (v21 + (1 : Int))))
def VC33_k3 (i : Int) (X2 : Int × Int → Prop) (next2 : Int) : Prop :=
  (InR (i + (1 : Int)) ∧ X2 (next2, (i + (1 : Int))))
def VC33_k4 (j : Int) (X3 : Int × Int → Prop) (next3 : Int) : Prop :=
  (InR (j + (1 : Int)) ∧ X3 (next3, (j + (1 : Int))))
def VC33_l3 (sv : Lqc) (g : TG) (w signs : LI) (setv v21 i : Int) (X2 : Int × Int → Prop) (next2 j : Int) (X3 : Int × Int → Prop) : Prop :=
  (((decide (j ≤ (w.length : Int))) = true → VC15 setv i (fun (ret41v : Bool) => gcall (α := Bool) ret41v (VC58 sv g w (signs.getD (v21).toNat (0 : Int)) (i, j)) false (fun (ret50v : Bool) => (((ret41v && ret50v) = true → (0 ≤ j ∧ VC33_k4 j X3 (bOr .u32 next2 (bShl .u32 (1 : Int) j)))) ∧ ((ret41v && ret50v) = false → VC33_k4 j X3 next2))))) ∧ ((decide (j ≤ (w.length : Int))) = false → VC33_k3 i X2 next2))
def VC33_l2 (sv : Lqc) (g : TG) (w signs : LI) (setv v21 : Int) (X1 : Int × Int → Prop) (next i : Int) (X2 : Int × Int → Prop) : Prop :=
  (((decide (i ≤ (w.length : Int))) = true → Loop (σ := Int × Int) (fun s X => VC33_l3 sv g w signs setv v21 i X2 s.1 s.2 X) (next, i)) ∧ ((decide (i ≤ (w.length : Int))) = false → VC33_k2 v21 X1 next))
def VC33_l1 (sv : Lqc) (g : TG) (w signs : LI) (fromv : Int) (K : Int → Prop) (setv v21 : Int) (X1 : Int × Int → Prop) : Prop :=
  (((decide (v21 < (signs.length : Int))) = true → (inIdx v21 signs.length ∧ Loop (σ := Int × Int) (fun s X => VC33_l2 sv g w signs setv v21 X1 s.1 s.2 X) ((0 : Int), fromv))) ∧ ((decide (v21 < (signs.length : Int))) = false → VC33_k1 K setv))
def VC33 (sv : Lqc) (g : TG) (w signs : LI) (fromv : Int) (K : Int → Prop) : Prop :=
  (0 ≤ fromv ∧ Loop (σ := Int × Int) (fun s X => VC33_l1 sv g w signs fromv K s.1 s.2 X) ((bShl .u32 (1 : Int) fromv), (0 : Int)))
theorem link33 (sv : Lqc) (g : TG) (w signs : LI) (fromv : Int) (K : Int → Prop) (h : VC33 sv g w signs fromv K) : ACalls Try.prog 33 [toV1 (.mp (.pr tI tI) (.int .u32)) sv, toV1 tG g, toV1 (.sl tI) w, toV1 (.sl tI) signs, toV1 tI fromv] (fun res => ∃ y, res = (fun y => [toV1 (.int .u32) y]) y ∧ K y) := by
 refine acalls_of_aw [(.int .u32)] [.t 10] Try.func33 rfl rfl rfl ?_
 unfold VC33 at h
 refine sr (qT 2 ⟨59, [e33_1 sv, e33_6 w, s1 3 (.pS signs), sI 4 fromv, sp 6 6], [e33_0 g]⟩ (nsr (qA 3 1 1 ⟨59, [e33_1 sv, e33_6 w, s1 3 (.pS signs), sI 4 fromv, sp 6 6, s1 11 (.pW (bShl .u32 (1 : Int) fromv))], [e33_0 g]⟩ h fun h => nn (aw_seq (qS 3 ⟨59, [e33_1 sv, e33_6 w, sI 4 fromv, sp 6 6, s1 11 (.pW (bShl .u32 (1 : Int) fromv)), e33_4 signs, e33_3 signs, sI 21 (0 : Int)], [e33_0 g]⟩ (withJoin (σ := Int) (fun s => ⟨59, [s1 11 (.pW s)], []⟩) (fun s => VC33_k1 K s) (fun setv h => ?_) (fun rest1 => ?_)))))))
 ·have h : VC33_k1 K setv := h
  unfold VC33_k1 at h
  exact thenQ_n (qS 2 ⟨59, [s1 10 (.pW setv)], []⟩ (aw_ret (qE 1 h)))
 ·refine aw_block (aw_loop (σ := Int × Int) (fun s => ⟨59, [e33_1 sv, e33_6 w, sI 4 fromv, sp 6 6, s1 11 (.pW s.1), e33_4 signs, e33_3 signs, sI 21 s.2], [e33_0 g]⟩) (fun s X => VC33_l1 sv g w signs fromv K s.1 s.2 X) (s0 := ((bShl .u32 (1 : Int) fromv), (0 : Int))) (fun s X1 h => ?_) h)
  obtain ⟨setv, v21⟩ := s
  have h : VC33_l1 sv g w signs fromv K setv v21 X1 := h
  unfold VC33_l1 at h
  refine qS 1 ⟨59, [e33_1 sv, e33_6 w, sI 4 fromv, sp 6 6, e33_5 setv, e33_4 signs, e33_3 signs, sI 21 v21, sB 22 (decide (v21 < (signs.length : Int)))], [e33_0 g]⟩ (aw_seq (qI h (fun h => ?_) fun h => ?_))
  ·refine aw_skip (thenQ_n (aw_seq (aw_block (sr (qA 3 0 2 ⟨59, [e33_1 sv, e33_6 w, sI 4 fromv, sp 6 6, e33_5 setv, e33_2 signs v21, e33_4 signs, e33_3 signs, sI 21 v21], [e33_0 g]⟩ h fun h => nsr (qT 1 ⟨59, [e33_1 sv, e33_6 w, sI 4 fromv, sp 6 6, e33_5 setv, e33_2 signs v21, s1 14 (.pW (0 : Int)), e33_4 signs, e33_3 signs, sI 21 v21], [e33_0 g]⟩ (nn (aw_seq (qS 2 ⟨59, [e33_1 sv, e33_6 w, sI 4 fromv, sp 6 6, e33_5 setv, e33_2 signs v21, s1 14 (.pW (0 : Int)), sI 15 fromv, e33_4 signs, e33_3 signs, sI 21 v21], [e33_0 g]⟩ (withJoin (σ := Int) (fun s => ⟨59, [e33_1 sv, e33_6 w, sI 4 fromv, sp 6 6, s1 14 (.pW s), e33_4 signs, e33_3 signs, sI 21 v21], [e33_0 g]⟩) (fun s => VC33_k2 v21 X1 s) (fun next h => ?_) (fun rest2 => ?_)))))))))))
   ·have h : VC33_k2 v21 X1 next := h
    unfold VC33_k2 at h
    exact thenQ_n (aw_region (qT 2 ⟨59, [e33_1 sv, e33_6 w, sI 4 fromv, sp 6 6, s1 11 (.pW next), e33_4 signs, e33_3 signs, sI 21 v21], [e33_0 g]⟩ (awl_nil (blockQ_n (thenQ_n (aw_region (qA 2 0 1 ⟨59, [e33_1 sv, e33_6 w, sI 4 fromv, sp 6 6, s1 11 (.pW next), e33_4 signs, e33_3 signs, sI 21 (v21 + (1 : Int))], [e33_0 g]⟩ h fun h => awl_nil (thenQ_n ⟨(next, (v21 + (1 : Int))), rfl, h⟩))))))))
   ·refine aw_block (aw_loop (σ := Int × Int) (fun s => ⟨59, [e33_1 sv, e33_6 w, sI 4 fromv, sp 6 6, e33_5 setv, e33_2 signs v21, s1 14 (.pW s.1), sI 15 s.2, e33_4 signs, e33_3 signs, sI 21 v21], [e33_0 g]⟩) (fun s X => VC33_l2 sv g w signs setv v21 X1 s.1 s.2 X) (s0 := ((0 : Int), fromv)) (fun s X2 h => ?_) h)
    obtain ⟨next, i⟩ := s
    have h : VC33_l2 sv g w signs setv v21 X1 next i X2 := h
    unfold VC33_l2 at h
    refine aw_seq (qS 4 ⟨59, [e33_1 sv, e33_6 w, sI 4 fromv, sp 6 6, e33_5 setv, e33_2 signs v21, s1 14 (.pW next), sI 15 i, e33_4 signs, e33_3 signs, sI 21 v21, sB 29 (decide (i ≤ (w.length : Int)))], [e33_0 g]⟩ (qI h (fun h => ?_) fun h => ?_))
    ·refine aw_skip (thenQ_n (aw_seq (aw_block (qS 2 ⟨59, [e33_1 sv, e33_6 w, sI 4 fromv, sp 6 6, e33_5 setv, e33_2 signs v21, s1 14 (.pW next), sI 15 i, sI 16 i, e33_4 signs, e33_3 signs, sI 21 v21], [e33_0 g]⟩ (withJoin (σ := Int) (fun s => ⟨59, [e33_1 sv, e33_6 w, sI 4 fromv, sp 6 6, e33_5 setv, e33_2 signs v21, s1 14 (.pW s), sI 15 i, e33_4 signs, e33_3 signs, sI 21 v21], [e33_0 g]⟩) (fun s => VC33_k3 i X2 s) (fun next2 h => ?_) (fun rest3 => ?_))))))
     ·have h : VC33_k3 i X2 next2 := h
      unfold VC33_k3 at h
      exact blockQ_n (thenQ_n (aw_region (qA 3 1 1 ⟨59, [e33_1 sv, e33_6 w, sI 4 fromv, sp 6 6, e33_5 setv, e33_2 signs v21, s1 14 (.pW next2), sI 15 (i + (1 : Int)), e33_4 signs, e33_3 signs, sI 21 v21], [e33_0 g]⟩ h fun h => awl_nil (thenQ_n ⟨(next2, (i + (1 : Int))), rfl, h⟩))))
     ·refine aw_block (aw_loop (σ := Int × Int) (fun s => ⟨59, [e33_1 sv, e33_6 w, sI 4 fromv, sp 6 6, e33_5 setv, e33_2 signs v21, s1 14 (.pW s.1), sI 15 i, sI 16 s.2, e33_4 signs, e33_3 signs, sI 21 v21], [e33_0 g]⟩) (fun s X => VC33_l3 sv g w signs setv v21 i X2 s.1 s.2 X) (s0 := (next, i)) (fun s X3 h => ?_) h)
      obtain ⟨next2, j⟩ := s
      have h : VC33_l3 sv g w signs setv v21 i X2 next2 j X3 := h
      unfold VC33_l3 at h
      refine aw_seq (qS 4 ⟨59, [e33_1 sv, e33_6 w, sI 4 fromv, sp 6 6, e33_5 setv, e33_2 signs v21, s1 14 (.pW next2), sI 15 i, sI 16 j, e33_4 signs, e33_3 signs, sI 21 v21, sB 36 (decide (j ≤ (w.length : Int)))], [e33_0 g]⟩ (qI h (fun h => ?_) fun h => ?_))
      ·refine aw_skip (thenQ_n (aw_seq (aw_block (sr (qT 2 ⟨59, [e33_1 sv, e33_6 w, sI 4 fromv, sp 6 6, e33_5 setv, e33_2 signs v21, s1 14 (.pW next2), sI 15 i, sI 16 j, e33_4 signs, e33_3 signs, sI 21 v21, s1 39 (.pW setv), sI 40 i], [e33_0 g]⟩ (qK 41 [.d (.int .u32), .d tI] (fun ret41v => ⟨59, [e33_1 sv, e33_6 w, sI 4 fromv, sp 6 6, e33_5 setv, e33_2 signs v21, s1 14 (.pW next2), sI 15 i, sI 16 j, e33_4 signs, e33_3 signs, sI 21 v21, sB 41 ret41v], [e33_0 g]⟩) Try.call15 (link15 setv i _ h) fun ret41v h => ?_))))))
       refine qR 8 ⟨59, [e33_1 sv, e33_6 w, sI 4 fromv, sp 6 6, e33_5 setv, e33_2 signs v21, s1 14 (.pW next2), sI 15 i, sI 16 j, e33_4 signs, e33_3 signs, sI 21 v21, sB 42 ret41v, (43, [(42, true)], .v (.c (.p (.mp (.pr tI tI) (.int .u32)) sv))), (44, [(42, true)], .v (.agg [.pI g.1, .pI g.2.1, .pI g.2.2.1, .p (.sl tR) g.2.2.2])), (45, [(42, true)], .v (.c (.pS w))), (46, [(42, true)], .v (.c (.pI (signs.getD (v21).toNat (0 : Int))))), (49, [(42, true)], .v (.agg [.pI i, .pI j]))], [e33_0 g]⟩ (ob := Ts 1 (Ti 7 (ret41v = true → True) True)) (tsI 1 (tiI 7 (fun _ => trivial) trivial)) ?_
       refine awl_callk (p := [(42, true)]) (l := [toV1 (.mp (.pr tI tI) (.int .u32)) sv, toV1 tG g, toV1 (.sl tI) w, toV1 tI (signs.getD (v21).toNat (0 : Int)), toV1 (.pr tI tI) (i, j)]) (cl := []) false [.d (.mp (.pr tI tI) (.int .u32)), .d tG, .d (.sl tI), .d tI, .d (.pr tI tI)] [0, 2, 4, 6, 11, 13, 14, 15, 16, 19, 20, 21, 42, 50] [6] (fun (ret50v : Bool) => (((ret41v && ret50v) = true → (0 ≤ j ∧ VC33_k4 j X3 (bOr .u32 next2 (bShl .u32 (1 : Int) j)))) ∧ ((ret41v && ret50v) = false → VC33_k4 j X3 next2))) (fun ret50v => [toV1 .bool ret50v]) (fun ret50v => ⟨59, [e33_1 sv, e33_6 w, sI 4 fromv, sp 6 6, e33_5 setv, e33_2 signs v21, s1 14 (.pW next2), sI 15 i, sI 16 j, e33_4 signs, e33_3 signs, sI 21 v21, sB 42 ret41v, (50, [(42, true)], .v (.c (.pB ret50v)))], [e33_0 g]⟩) (by kernel_rfl) rfl (by kernel_rfl) rfl (by kernel_rfl) Try.call58 (by kernel_rfl) (fun ret50v => by kernel_rfl) (fun e => by cases e) (fun hg => link58 sv g w (signs.getD (v21).toNat (0 : Int)) (i, j) _ (by have := gcall_T h (show ret41v = true from hg); exact this)) (fun hg => ⟨false, by have := gcall_F h (show ret41v = false from hg); exact this⟩) (fun ret50v h => ?_)
       refine qT 1 ⟨59, [e33_1 sv, e33_6 w, sI 4 fromv, sp 6 6, e33_5 setv, e33_2 signs v21, s1 14 (.pW next2), sI 15 i, sI 16 j, e33_4 signs, e33_3 signs, sI 21 v21, sB 51 (ret41v && ret50v)], [e33_0 g]⟩ (nn (withJoin (σ := Int) (fun s => ⟨59, [e33_1 sv, e33_6 w, sI 4 fromv, sp 6 6, e33_5 setv, e33_2 signs v21, s1 14 (.pW s), sI 15 i, sI 16 j, e33_4 signs, e33_3 signs, sI 21 v21], [e33_0 g]⟩) (fun s => VC33_k4 j X3 s) (fun next3 h => ?_) (fun rest4 => ?_)))
       ·have h : VC33_k4 j X3 next3 := h
        unfold VC33_k4 at h
        exact blockQ_n (thenQ_n (aw_region (qA 3 1 1 ⟨59, [e33_1 sv, e33_6 w, sI 4 fromv, sp 6 6, e33_5 setv, e33_2 signs v21, s1 14 (.pW next3), sI 15 i, sI 16 (j + (1 : Int)), e33_4 signs, e33_3 signs, sI 21 v21], [e33_0 g]⟩ h fun h => awl_nil (thenQ_n ⟨(next3, (j + (1 : Int))), rfl, h⟩))))
       ·refine qI h (fun h => ?_) fun h => ?_
        ·exact aw_region (qA 5 2 2 ⟨59, [e33_1 sv, e33_6 w, sI 4 fromv, sp 6 6, e33_5 setv, e33_2 signs v21, s1 14 (.pW (bOr .u32 next2 (bShl .u32 (1 : Int) j))), sI 15 i, sI 16 j, e33_4 signs, e33_3 signs, sI 21 v21], [e33_0 g]⟩ h fun h => awl_nil (rest4 (bOr .u32 next2 (bShl .u32 (1 : Int) j)) h))
        ·exact qC ⟨59, [e33_1 sv, e33_6 w, sI 4 fromv, sp 6 6, e33_5 setv, e33_2 signs v21, s1 14 (.pW next2), sI 15 i, sI 16 j, e33_4 signs, e33_3 signs, sI 21 v21], [e33_0 g]⟩ (aw_skip (rest4 next2 h))
      ·exact qC ⟨59, [e33_1 sv, e33_6 w, sI 4 fromv, sp 6 6, e33_5 setv, e33_2 signs v21, s1 14 (.pW next2), sI 15 i, e33_4 signs, e33_3 signs, sI 21 v21], [e33_0 g]⟩ (aw_exit (thenQ_x (thenQ_x (blockQ_hit (rest3 next2 h)))))
    ·exact qC ⟨59, [e33_1 sv, e33_6 w, sI 4 fromv, sp 6 6, s1 14 (.pW next), e33_4 signs, e33_3 signs, sI 21 v21], [e33_0 g]⟩ (aw_exit (thenQ_x (thenQ_x (blockQ_hit (rest2 next h)))))
  ·exact qC ⟨59, [e33_5 setv], []⟩ (aw_exit (thenQ_x (thenQ_x (blockQ_hit (rest1 setv h)))))
abbrev e14_0 (g : TG) := hB 2 [.pI g.1, .pI g.2.1, .pI g.2.2.1, .p (.sl tR) g.2.2.2]
abbrev e14_1 (g : TG) (v24 : Int) := hB 9 [.pI ((g.2.2.2.getD (v24).toNat zqb).1), .pS ((g.2.2.2.getD (v24).toNat zqb).2)]
abbrev e14_2 (g : TG) := s1 22 (.p (.sl tR) g.2.2.2)
abbrev e14_3 (g : TG) := sI 23 (g.2.2.2.length : Int)
abbrev e14_4 (sv4 : Lqc) : Nat × Path × Con := (13, [], .dict (.pr tI tI) (.int .u32) sv4)
abbrev e14_5 := s1 5 (.own 13)
abbrev e14_6 (w : LI) := s1 1 (.pS w)
abbrev e14_7 (sv4 : Lqc) (fromv tov : Int) : Nat × Path × Con := (13, [], .dict (.pr tI tI) (.int .u32) (mtouch sv4 (fromv, tov) (0 : Int)))
abbrev e14_8 (sv3 : Lqc) : Nat × Path × Con := (13, [], .dict (.pr tI tI) (.int .u32) sv3)
abbrev e14_9 (ret34v : Int) := s1 10 (.pW ret34v)
abbrev e14_10 (g : TG) (v24 : Int) := s1 62 (.pW (bShl .u32 (1 : Int) ((g.2.2.2.getD (v24).toNat zqb).1)))
abbrev e14_11 (sv4 : Lqc) (fromv tov : Int) (g : TG) (v24 : Int) := s1 63 (.pW (bOr .u32 ((mget sv4 (fromv, tov)).getD (0 : Int)) (bShl .u32 (1 : Int) ((g.2.2.2.getD (v24).toNat zqb).1))))
abbrev e14_12 (sv : Lqc) : Nat × Path × Con := (13, [], .dict (.pr tI tI) (.int .u32) sv)
abbrev e14_13 (sv2 : Lqc) : Nat × Path × Con := (13, [], .dict (.pr tI tI) (.int .u32) sv2)
abbrev e14_14 : Nat × Path × Con := (13, [], .dict (.pr tI tI) (.int .u32) ([] : List ((Int × Int) × Int)))
abbrev e14_15 := s1 57 (.own 13)
-- coppicer/table.Make
def VC14_k1 (K : Lqc → Prop) (sv : Lqc) : Prop :=
  K sv
def VC14_k2 (X1 : Bool × Lqc → Prop) (grown2 : Bool) (sv2 : Lqc) : Prop :=
  X1 (grown2, sv2)
def VC14_k3 (fromv : Int) (X2 : Bool × Int × Lqc → Prop) (grown3 : Bool) (sv3 : Lqc) : Prop :=
  (InR (fromv - (1 : Int)) ∧ X2 (grown3, (fromv - (1 : Int)), sv3))
def VC14_k4 (v24 : Int) (X3 : Bool × Int × Lqc → Prop) (grown4 : Bool) (sv4 : Lqc) : Prop :=
  (InR (v24 + (1 : Int)) ∧ X3 (grown4, (v24 + (1 : Int)), sv4))
def VC14_k5 (tov : Int) (X4 : Bool × Int × Lqc → Prop) (grown5 : Bool) (sv5 : Lqc) : Prop :=
  (InR (tov + (1 : Int)) ∧ X4 (grown5, (tov + (1 : Int)), sv5))
def VC14_k6 (tov : Int) (X4 : Bool × Int × Lqc → Prop) (sv5 : Lqc) : Prop :=
  VC14_k5 tov X4 true sv5
def VC14_l4 (g : TG) (w : LI) (fromv v24 : Int) (X3 : Bool × Int × Lqc → Prop) (ret34v : Int) (grown4 : Bool) (tov : Int) (sv4 : Lqc) (X4 : Bool × Int × Lqc → Prop) : Prop :=
  (((decide (tov ≤ (w.length : Int))) = true → VC15 ret34v tov (fun (ret47v : Bool) => gcall (α := Bool) ret47v (VC15 ((mget sv4 (fromv, tov)).getD (0 : Int)) ((g.2.2.2.getD (v24).toNat ((0 : Int), ([] : LI))).1)) false (fun (ret54v : Bool) => (((ret47v && (!ret54v)) = true → (0 ≤ (g.2.2.2.getD (v24).toNat ((0 : Int), ([] : LI))).1 ∧ ((InR (sv4.length : Int) ∧ (inIdx (mplace sv4 (fromv, tov)) (mtouch sv4 (fromv, tov) (0 : Int)).length ∧ VC14_k6 tov X4 (mputAt (mtouch sv4 (fromv, tov) (0 : Int)) ((mplace sv4 (fromv, tov))).toNat (bOr .u32 ((mget sv4 (fromv, tov)).getD (0 : Int)) (bShl .u32 (1 : Int) ((g.2.2.2.getD (v24).toNat ((0 : Int), ([] : LI))).1)))))) ∧ (InR (sv4.length : Int) ∧ (inIdx (mplace sv4 (fromv, tov)) (mtouch sv4 (fromv, tov) (0 : Int)).length ∧ VC14_k6 tov X4 (mputAt (mtouch sv4 (fromv, tov) (0 : Int)) ((mplace sv4 (fromv, tov))).toNat (bOr .u32 ((mget (mtouch sv4 (fromv, tov) (0 : Int)) (fromv, tov)).getD (0 : Int)) (bShl .u32 (1 : Int) ((g.2.2.2.getD (v24).toNat ((0 : Int), ([] : LI))).1))))))))) ∧ ((ret47v && (!ret54v)) = false → VC14_k5 tov X4 grown4 sv4))))) ∧ ((decide (tov ≤ (w.length : Int))) = false → VC14_k4 v24 X3 grown4 sv4))
def VC14_l3 (g : TG) (w : LI) (fromv : Int) (X2 : Bool × Int × Lqc → Prop) (grown3 : Bool) (v24 : Int) (sv3 : Lqc) (X3 : Bool × Int × Lqc → Prop) : Prop :=
  (((decide (v24 < (g.2.2.2.length : Int))) = true → (inIdx v24 g.2.2.2.length ∧ VC33 sv3 g w ((g.2.2.2.getD (v24).toNat ((0 : Int), ([] : LI))).2) fromv (fun (ret34v : Int) => Loop (σ := Bool × Int × Lqc) (fun s X => VC14_l4 g w fromv v24 X3 ret34v s.1 s.2.1 s.2.2 X) (grown3, fromv, sv3)))) ∧ ((decide (v24 < (g.2.2.2.length : Int))) = false → VC14_k3 fromv X2 grown3 sv3))
def VC14_l2 (g : TG) (w : LI) (X1 : Bool × Lqc → Prop) (grown2 : Bool) (fromv : Int) (sv2 : Lqc) (X2 : Bool × Int × Lqc → Prop) : Prop :=
  (((decide ((0 : Int) ≤ fromv)) = true → Loop (σ := Bool × Int × Lqc) (fun s X => VC14_l3 g w fromv X2 s.1 s.2.1 s.2.2 X) (grown2, (0 : Int), sv2)) ∧ ((decide ((0 : Int) ≤ fromv)) = false → VC14_k2 X1 grown2 sv2))
def VC14_l1 (g : TG) (w : LI) (K : Lqc → Prop) (grown : Bool) (sv : Lqc) (X1 : Bool × Lqc → Prop) : Prop :=
  ((grown = true → Loop (σ := Bool × Int × Lqc) (fun s X => VC14_l2 g w X1 s.1 s.2.1 s.2.2 X) (false, (w.length : Int), sv)) ∧ (grown = false → VC14_k1 K sv))
def VC14 (g : TG) (w : LI) (K : Lqc → Prop) : Prop :=
  Loop (σ := Bool × Lqc) (fun s X => VC14_l1 g w K s.1 s.2 X) (true, ([] : List ((Int × Int) × Int)))
abbrev asx0 (g : TG) (v24 : Int) := g.2.2.2.getD (v24).toNat zqb
abbrev asx1 := List ((Int × Int) × Int)
abbrev asx2 (sv4 : Lqc) (fromv tov : Int) := mtouch sv4 (fromv, tov) (0 : Int)
abbrev asx3 (sv4 : Lqc) (fromv tov : Int) := (mget sv4 (fromv, tov)).getD (0 : Int)
abbrev asx4 (sv4 : Lqc) (fromv tov : Int) := (mget (asx2 sv4 fromv tov) (fromv, tov)).getD (0 : Int)
theorem link14 (g : TG) (w : LI) (K : asx1 → Prop) (h : VC14 g w K) : ACalls Try.prog 14 [toV1 tG g, toV1 (.sl tI) w] (fun res => ∃ y, res = (fun y => [toV1 (.mp (.pr tI tI) (.int .u32)) y]) y ∧ K y) := by
 refine acalls_of_aw [(.mp (.pr tI tI) (.int .u32))] [.t 4] Try.func14 rfl rfl rfl ?_
 unfold VC14 at h
 refine sr (qT 2 ⟨68, [e14_6 w, sp 2 2], [e14_0 g]⟩ (nsr (qT 2 ⟨68, [e14_6 w, sp 2 2, e14_5], [e14_0 g, e14_14]⟩ (nn (aw_seq (qS 1 ⟨68, [e14_6 w, sp 2 2, e14_5, sB 6 true], [e14_0 g, e14_14]⟩ (withJoin (σ := asx1) (fun s => ⟨68, [e14_5], [(13, [], .dict (.pr tI tI) (.int .u32) s)]⟩) (fun s => VC14_k1 K s) (fun sv h => ?_) (fun rest1 => ?_))))))))
 ·have h : VC14_k1 K sv := h
  unfold VC14_k1 at h
  exact thenQ_n (qS 2 ⟨68, [s1 4 (.own 13)], [e14_12 sv]⟩ (qV [.freeze 13] ⟨68, [s1 4 (.p (.mp (.pr tI tI) (.int .u32)) sv)], []⟩ (aw_ret (qE 1 h))))
 ·refine aw_block (aw_loop (σ := Bool × asx1) (fun s => ⟨68, [e14_6 w, sp 2 2, e14_5, sB 6 s.1], [e14_0 g, (13, [], .dict (.pr tI tI) (.int .u32) s.2)]⟩) (fun s X => VC14_l1 g w K s.1 s.2 X) (s0 := (true, ([] : List ((Int × Int) × Int)))) (fun s X1 h => ?_) h)
  obtain ⟨grown, sv⟩ := s
  have h : VC14_l1 g w K grown sv X1 := h
  unfold VC14_l1 at h
  refine aw_seq (qS 1 ⟨68, [e14_6 w, sp 2 2, e14_5, sB 14 grown], [e14_0 g, e14_12 sv]⟩ (qI h (fun h => ?_) fun h => ?_))
  ·refine aw_skip (thenQ_n (aw_block (sr (qT 1 ⟨68, [e14_6 w, sp 2 2, e14_5, sB 6 false], [e14_0 g, e14_12 sv]⟩ (nsr (qT 3 ⟨68, [e14_6 w, sp 2 2, e14_5, sB 6 false, sI 7 (w.length : Int)], [e14_0 g, e14_12 sv]⟩ (nn (withJoin (σ := Bool × asx1) (fun s => ⟨68, [e14_6 w, sp 2 2, e14_5, sB 6 s.1], [e14_0 g, (13, [], .dict (.pr tI tI) (.int .u32) s.2)]⟩) (fun s => VC14_k2 X1 s.1 s.2) (fun s h => ?_) (fun rest2 => ?_)))))))))
   ·obtain ⟨grown2, sv2⟩ := s
    have h : VC14_k2 X1 grown2 sv2 := h
    unfold VC14_k2 at h
    exact blockQ_n (thenQ_n ⟨(grown2, sv2), rfl, h⟩)
   ·refine aw_block (aw_loop (σ := Bool × Int × asx1) (fun s => ⟨68, [e14_6 w, sp 2 2, e14_5, sB 6 s.1, sI 7 s.2.1], [e14_0 g, (13, [], .dict (.pr tI tI) (.int .u32) s.2.2)]⟩) (fun s X => VC14_l2 g w X1 s.1 s.2.1 s.2.2 X) (s0 := (false, (w.length : Int), sv)) (fun s X2 h => ?_) h)
    obtain ⟨grown2, fromv, sv2⟩ := s
    have h : VC14_l2 g w X1 grown2 fromv sv2 X2 := h
    unfold VC14_l2 at h
    refine aw_seq (qS 2 ⟨68, [e14_6 w, sp 2 2, e14_5, sB 6 grown2, sI 7 fromv, sB 18 (decide ((0 : Int) ≤ fromv))], [e14_0 g, e14_13 sv2]⟩ (qI h (fun h => ?_) fun h => ?_))
    ·refine aw_skip (thenQ_n (aw_seq (aw_block (qS 4 ⟨68, [e14_6 w, sp 2 2, e14_5, sB 6 grown2, sI 7 fromv, e14_2 g, e14_3 g, sI 24 (0 : Int)], [e14_0 g, e14_13 sv2]⟩ (withJoin (σ := Bool × asx1) (fun s => ⟨68, [e14_6 w, sp 2 2, e14_5, sB 6 s.1, sI 7 fromv], [e14_0 g, (13, [], .dict (.pr tI tI) (.int .u32) s.2)]⟩) (fun s => VC14_k3 fromv X2 s.1 s.2) (fun s h => ?_) (fun rest3 => ?_))))))
     ·obtain ⟨grown3, sv3⟩ := s
      have h : VC14_k3 fromv X2 grown3 sv3 := h
      unfold VC14_k3 at h
      exact blockQ_n (thenQ_n (aw_region (qA 3 1 1 ⟨68, [e14_6 w, sp 2 2, e14_5, sB 6 grown3, sI 7 (fromv - (1 : Int))], [e14_0 g, e14_8 sv3]⟩ h fun h => awl_nil (thenQ_n ⟨(grown3, (fromv - (1 : Int)), sv3), rfl, h⟩))))
     ·refine aw_block (aw_loop (σ := Bool × Int × asx1) (fun s => ⟨68, [e14_6 w, sp 2 2, e14_5, sB 6 s.1, sI 7 fromv, e14_2 g, e14_3 g, sI 24 s.2.1], [e14_0 g, (13, [], .dict (.pr tI tI) (.int .u32) s.2.2)]⟩) (fun s X => VC14_l3 g w fromv X2 s.1 s.2.1 s.2.2 X) (s0 := (grown2, (0 : Int), sv2)) (fun s X3 h => ?_) h)
      obtain ⟨grown3, v24, sv3⟩ := s
      have h : VC14_l3 g w fromv X2 grown3 v24 sv3 X3 := h
      unfold VC14_l3 at h
      refine qS 1 ⟨68, [e14_6 w, sp 2 2, e14_5, sB 6 grown3, sI 7 fromv, e14_2 g, e14_3 g, sI 24 v24, sB 25 (decide (v24 < (g.2.2.2.length : Int)))], [e14_0 g, e14_8 sv3]⟩ (aw_seq (qI h (fun h => ?_) fun h => ?_))
      ·refine aw_skip (thenQ_n (aw_seq (aw_block (sr (qA 4 0 3 ⟨68, [e14_6 w, sp 2 2, e14_5, sB 6 grown3, sI 7 fromv, sp 9 9, e14_2 g, e14_3 g, sI 24 v24], [e14_0 g, e14_1 g v24, e14_8 sv3]⟩ h fun h => nsr (qT 6 ⟨68, [e14_6 w, sp 2 2, e14_5, sB 6 grown3, sI 7 fromv, sp 9 9, e14_2 g, e14_3 g, sI 24 v24, s1 28 (.own 13), sA 29 [.pI g.1, .pI g.2.1, .pI g.2.2.1, .p (.sl tR) g.2.2.2], s1 30 (.pS w), s1 32 (.pS ((asx0 g v24).2)), sI 33 fromv], [e14_0 g, e14_1 g v24, e14_8 sv3]⟩ (awl_callk (p := []) (l := [toV1 (.mp (.pr tI tI) (.int .u32)) sv3, toV1 tG g, toV1 (.sl tI) w, toV1 (.sl tI) ((asx0 g v24).2), toV1 tI fromv]) (cl := []) true [.d (.mp (.pr tI tI) (.int .u32)), .d tG, .d (.sl tI), .d (.sl tI), .d tI] [1, 2, 5, 6, 7, 9, 22, 23, 24, 34] [2, 9, 13] (fun (ret34v : Int) => Loop (σ := Bool × Int × asx1) (fun s X => VC14_l4 g w fromv v24 X3 ret34v s.1 s.2.1 s.2.2 X) (grown3, fromv, sv3)) (fun ret34v => [toV1 (.int .u32) ret34v]) (fun ret34v => ⟨68, [e14_6 w, sp 2 2, e14_5, sB 6 grown3, sI 7 fromv, sp 9 9, e14_2 g, e14_3 g, sI 24 v24, s1 34 (.pW ret34v)], [e14_0 g, e14_1 g v24, e14_8 sv3]⟩) (by kernel_rfl) rfl (by kernel_rfl) rfl (by kernel_rfl) Try.call33 (by kernel_rfl) (fun ret34v => by kernel_rfl) (fun _ _ => rfl) (fun hg => link33 sv3 g w ((asx0 g v24).2) fromv _ h) (fun hg => noF hg) (fun ret34v h => ?_))))))))
       refine qT 1 ⟨68, [e14_6 w, sp 2 2, e14_5, sB 6 grown3, sI 7 fromv, sp 9 9, e14_9 ret34v, e14_2 g, e14_3 g, sI 24 v24], [e14_0 g, e14_1 g v24, e14_8 sv3]⟩ (nsr (qT 2 ⟨68, [e14_6 w, sp 2 2, e14_5, sB 6 grown3, sI 7 fromv, sp 9 9, e14_9 ret34v, sI 11 fromv, e14_2 g, e14_3 g, sI 24 v24], [e14_0 g, e14_1 g v24, e14_8 sv3]⟩ (nn (withJoin (σ := Bool × asx1) (fun s => ⟨68, [e14_6 w, sp 2 2, e14_5, sB 6 s.1, sI 7 fromv, e14_2 g, e14_3 g, sI 24 v24], [e14_0 g, (13, [], .dict (.pr tI tI) (.int .u32) s.2)]⟩) (fun s => VC14_k4 v24 X3 s.1 s.2) (fun s h => ?_) (fun rest4 => ?_)))))
       ·obtain ⟨grown4, sv4⟩ := s
        have h : VC14_k4 v24 X3 grown4 sv4 := h
        unfold VC14_k4 at h
        exact blockQ_n (thenQ_n (aw_region (qA 2 0 1 ⟨68, [e14_6 w, sp 2 2, e14_5, sB 6 grown4, sI 7 fromv, e14_2 g, e14_3 g, sI 24 (v24 + (1 : Int))], [e14_0 g, e14_4 sv4]⟩ h fun h => awl_nil (thenQ_n ⟨(grown4, (v24 + (1 : Int)), sv4), rfl, h⟩))))
       ·refine aw_block (aw_loop (σ := Bool × Int × asx1) (fun s => ⟨68, [e14_6 w, sp 2 2, e14_5, sB 6 s.1, sI 7 fromv, sp 9 9, e14_9 ret34v, sI 11 s.2.1, e14_2 g, e14_3 g, sI 24 v24], [e14_0 g, e14_1 g v24, (13, [], .dict (.pr tI tI) (.int .u32) s.2.2)]⟩) (fun s X => VC14_l4 g w fromv v24 X3 ret34v s.1 s.2.1 s.2.2 X) (s0 := (grown3, fromv, sv3)) (fun s X4 h => ?_) h)
        obtain ⟨grown4, tov, sv4⟩ := s
        have h : VC14_l4 g w fromv v24 X3 ret34v grown4 tov sv4 X4 := h
        unfold VC14_l4 at h
        refine aw_seq (qS 4 ⟨68, [e14_6 w, sp 2 2, e14_5, sB 6 grown4, sI 7 fromv, sp 9 9, e14_9 ret34v, sI 11 tov, e14_2 g, e14_3 g, sI 24 v24, sB 39 (decide (tov ≤ (w.length : Int)))], [e14_0 g, e14_1 g v24, e14_4 sv4]⟩ (qI h (fun h => ?_) fun h => ?_))
        ·refine aw_skip (thenQ_n (aw_seq (aw_block (qS 5 ⟨68, [e14_6 w, sp 2 2, e14_5, sB 6 grown4, sI 7 fromv, sp 9 9, e14_9 ret34v, sI 11 tov, sp 12 12, e14_2 g, e14_3 g, sI 24 v24], [e14_0 g, e14_1 g v24, hB 12 [.pI fromv, .pI tov], e14_4 sv4]⟩ (aw_seq (awd_begin [] (by kernel_rfl) ?_))))))
         refine qDT 2 [0, 1] [1, 0] ⟨68, [e14_6 w, sp 2 2, e14_5, sB 6 grown4, sI 7 fromv, sp 9 9, e14_9 ret34v, sI 11 tov, sp 12 12, e14_2 g, e14_3 g, sI 24 v24, s1 45 (.pW ret34v), sI 46 tov], [e14_0 g, e14_1 g v24, hB 12 [.pI fromv, .pI tov], e14_4 sv4]⟩ (awd_one (i := 2) (by kernel_rfl) ?_)
         refine dcq (d := 47) [.d (.int .u32), .d tI] (fun ret47v => ⟨68, [e14_6 w, sp 2 2, e14_5, sB 6 grown4, sI 7 fromv, sp 9 9, e14_9 ret34v, sI 11 tov, sp 12 12, e14_2 g, e14_3 g, sI 24 v24, sB 47 ret47v], [e14_0 g, e14_1 g v24, hB 12 [.pI fromv, .pI tov], e14_4 sv4]⟩) rfl (by kernel_rfl) Try.call15 (fun _ => by kernel_rfl) (link15 ret34v tov _ h) (fun ret47v h => (qD [3, 4, 5, 6, 7, 8] [8, 7, 6, 5, 4, 3, 2, 1, 0] ⟨68, [e14_6 w, sp 2 2, e14_5, sB 6 grown4, sI 7 fromv, sp 9 9, e14_9 ret34v, sI 11 tov, sp 12 12, e14_2 g, e14_3 g, sI 24 v24, sB 48 ret47v, (51, [(48, true)], .v (.c (.pW (asx3 sv4 fromv tov)))), (53, [(48, true)], .v (.c (.pI ((asx0 g v24).1))))], [e14_0 g, e14_1 g v24, hB 12 [.pI fromv, .pI tov], e14_4 sv4]⟩ (ob := Ts 1 (Ti 5 (ret47v = true → True) True)) (tsI 1 (tiI 5 (fun _ => trivial) trivial)) ?_))
         refine awd_one (i := 9) (by kernel_rfl) ?_
         refine adop_callk (p := [(48, true)]) (l := [toV1 (.int .u32) (asx3 sv4 fromv tov), toV1 tI ((asx0 g v24).1)]) (cl := []) false [.d (.int .u32), .d tI] [1, 2, 5, 6, 7, 9, 10, 11, 12, 22, 23, 24, 48, 54] [2, 9, 12, 13] (fun (ret54v : Bool) => (((ret47v && (!ret54v)) = true → (0 ≤ (asx0 g v24).1 ∧ ((InR (sv4.length : Int) ∧ (inIdx (mplace sv4 (fromv, tov)) (asx2 sv4 fromv tov).length ∧ VC14_k6 tov X4 (mputAt (asx2 sv4 fromv tov) ((mplace sv4 (fromv, tov))).toNat (bOr .u32 (asx3 sv4 fromv tov) (bShl .u32 (1 : Int) ((asx0 g v24).1)))))) ∧ (InR (sv4.length : Int) ∧ (inIdx (mplace sv4 (fromv, tov)) (asx2 sv4 fromv tov).length ∧ VC14_k6 tov X4 (mputAt (asx2 sv4 fromv tov) ((mplace sv4 (fromv, tov))).toNat (bOr .u32 (asx4 sv4 fromv tov) (bShl .u32 (1 : Int) ((asx0 g v24).1))))))))) ∧ ((ret47v && (!ret54v)) = false → VC14_k5 tov X4 grown4 sv4))) (fun ret54v => [toV1 .bool ret54v]) (fun ret54v => ⟨68, [e14_6 w, sp 2 2, e14_5, sB 6 grown4, sI 7 fromv, sp 9 9, e14_9 ret34v, sI 11 tov, sp 12 12, e14_2 g, e14_3 g, sI 24 v24, sB 48 ret47v, (54, [(48, true)], .v (.c (.pB ret54v)))], [e14_0 g, e14_1 g v24, hB 12 [.pI fromv, .pI tov], e14_4 sv4]⟩) rfl (by kernel_rfl) rfl (by kernel_rfl) rfl (by kernel_rfl) Try.call15 (by kernel_rfl) (fun ret54v => by kernel_rfl) (fun e => by cases e) (fun hg => link15 (asx3 sv4 fromv tov) ((asx0 g v24).1) _ (by have := gcall_T h (show ret47v = true from hg); exact this)) (fun hg => ⟨false, by have := gcall_F h (show ret47v = false from hg); exact this⟩) (fun ret54v h => ?_)
         refine qD [10, 11] [11, 10, 9, 8, 7, 6, 5, 4, 3, 2, 1, 0] ⟨68, [e14_6 w, sp 2 2, e14_5, sB 6 grown4, sI 7 fromv, sp 9 9, e14_9 ret34v, sI 11 tov, sp 12 12, e14_2 g, e14_3 g, sI 24 v24, sB 56 (ret47v && (!ret54v))], [e14_0 g, e14_1 g v24, hB 12 [.pI fromv, .pI tov], e14_4 sv4]⟩ (ob := (ret47v = true → True) ∧ Ts 1 True) (⟨(fun _ => trivial), tsI 1 trivial⟩) ?_
         refine awd_done (by kernel_rfl) ?_
         refine thenQ_n (withJoin (σ := Bool × asx1) (fun s => ⟨68, [e14_6 w, sp 2 2, e14_5, sB 6 s.1, sI 7 fromv, sp 9 9, e14_9 ret34v, sI 11 tov, e14_2 g, e14_3 g, sI 24 v24], [e14_0 g, e14_1 g v24, (13, [], .dict (.pr tI tI) (.int .u32) s.2)]⟩) (fun s => VC14_k5 tov X4 s.1 s.2) (fun s h => ?_) (fun rest5 => ?_))
         ·obtain ⟨grown5, sv5⟩ := s
          have h : VC14_k5 tov X4 grown5 sv5 := h
          unfold VC14_k5 at h
          exact blockQ_n (thenQ_n (aw_region (qA 3 1 1 ⟨68, [e14_6 w, sp 2 2, e14_5, sB 6 grown5, sI 7 fromv, sp 9 9, e14_9 ret34v, sI 11 (tov + (1 : Int)), e14_2 g, e14_3 g, sI 24 v24], [e14_0 g, e14_1 g v24, (13, [], .dict (.pr tI tI) (.int .u32) sv5)]⟩ h fun h => awl_nil (thenQ_n ⟨(grown5, (tov + (1 : Int)), sv5), rfl, h⟩))))
         ·refine qI h (fun h => ?_) fun h => ?_
          ·refine aw_seq (withJoin (σ := asx1) (fun s => ⟨68, [e14_6 w, sp 2 2, e14_5, sI 7 fromv, sp 9 9, e14_9 ret34v, sI 11 tov, e14_2 g, e14_3 g, sI 24 v24], [e14_0 g, e14_1 g v24, (13, [], .dict (.pr tI tI) (.int .u32) s)]⟩) (fun s => VC14_k6 tov X4 s) (fun sv5 h => ?_) (fun rest6 => ?_))
           ·have h : VC14_k6 tov X4 sv5 := h
            unfold VC14_k6 at h
            exact thenQ_n (aw_region (qT 1 ⟨68, [e14_6 w, sp 2 2, e14_5, sB 6 true, sI 7 fromv, sp 9 9, e14_9 ret34v, sI 11 tov, e14_2 g, e14_3 g, sI 24 v24], [e14_0 g, e14_1 g v24, (13, [], .dict (.pr tI tI) (.int .u32) sv5)]⟩ (awl_nil (rest5 (true, sv5) h))))
           ·refine awd_begin [13] (by kernel_rfl) ?_
            obtain ⟨o1, h⟩ := h
            refine qDO 4 0 [0, 1, 3, 4, 5] [5, 4, 3, 1, 0] ⟨68, [e14_6 w, sp 2 2, e14_5, sI 7 fromv, sp 9 9, e14_9 ret34v, sI 11 tov, e14_2 g, e14_3 g, sI 24 v24, e14_15, sA 58 [.pI fromv, .pI tov], e14_10 g v24], [e14_0 g, e14_1 g v24, e14_4 sv4]⟩ o1 (awd_two (i := 2) (j := 7) (by kernel_rfl) ?_ ?_)
            ·have h := h.1
             refine dsq (ob := True) (st' := ⟨68, [e14_6 w, sp 2 2, e14_5, sI 7 fromv, sp 9 9, e14_9 ret34v, sI 11 tov, e14_2 g, e14_3 g, sI 24 v24, e14_15, sA 58 [.pI fromv, .pI tov], s1 59 (.pW (asx3 sv4 fromv tov)), e14_10 g v24], [e14_0 g, e14_1 g v24, e14_4 sv4]⟩) rfl (by kernel_rfl) trivial ?_
             refine qDT 1 [6] [6, 2, 5, 4, 3, 1, 0] ⟨68, [e14_6 w, sp 2 2, e14_5, sI 7 fromv, sp 9 9, e14_9 ret34v, sI 11 tov, e14_2 g, e14_3 g, sI 24 v24, e14_15, sA 58 [.pI fromv, .pI tov], e14_11 sv4 fromv tov g v24], [e14_0 g, e14_1 g v24, e14_4 sv4]⟩ (awd_one (i := 7) (by kernel_rfl) ?_)
             obtain ⟨o1, h⟩ := h
             refine dsq (ob := InR (sv4.length : Int)) (st' := ⟨68, [e14_6 w, sp 2 2, e14_5, sI 7 fromv, sp 9 9, e14_9 ret34v, sI 11 tov, e14_2 g, e14_3 g, sI 24 v24, e14_15, e14_11 sv4 fromv tov g v24, (64, [], .tup [.c (.pW (asx3 sv4 fromv tov)), .c (.pI (mplace sv4 (fromv, tov)))])], [e14_0 g, e14_1 g v24, e14_7 sv4 fromv tov]⟩) rfl (by kernel_rfl) o1 ?_
             refine qDT 1 [8] [8, 7, 6, 2, 5, 4, 3, 1, 0] ⟨68, [e14_6 w, sp 2 2, e14_5, sI 7 fromv, sp 9 9, e14_9 ret34v, sI 11 tov, e14_2 g, e14_3 g, sI 24 v24, e14_15, e14_11 sv4 fromv tov g v24, sI 65 (mplace sv4 (fromv, tov))], [e14_0 g, e14_1 g v24, e14_7 sv4 fromv tov]⟩ (awd_one (i := 9) (by kernel_rfl) ?_)
             obtain ⟨o1, h⟩ := h
             refine dsq (ob := inIdx (mplace sv4 (fromv, tov)) (asx2 sv4 fromv tov).length) (st' := ⟨68, [e14_6 w, sp 2 2, e14_5, sI 7 fromv, sp 9 9, e14_9 ret34v, sI 11 tov, e14_2 g, e14_3 g, sI 24 v24], [e14_0 g, e14_1 g v24, (13, [], .dict (.pr tI tI) (.int .u32) (mputAt (asx2 sv4 fromv tov) ((mplace sv4 (fromv, tov))).toNat (bOr .u32 (asx3 sv4 fromv tov) (bShl .u32 (1 : Int) ((asx0 g v24).1)))))]⟩) rfl (by kernel_rfl) o1 ?_
             refine awd_done (by kernel_rfl) ?_
             exact rest6 (mputAt (asx2 sv4 fromv tov) ((mplace sv4 (fromv, tov))).toNat (bOr .u32 (asx3 sv4 fromv tov) (bShl .u32 (1 : Int) ((asx0 g v24).1)))) h
            ·have h := h.2
             obtain ⟨o1, h⟩ := h
             refine dsq (ob := InR (sv4.length : Int)) (st' := ⟨68, [e14_6 w, sp 2 2, e14_5, sI 7 fromv, sp 9 9, e14_9 ret34v, sI 11 tov, e14_2 g, e14_3 g, sI 24 v24, e14_15, sA 58 [.pI fromv, .pI tov], e14_10 g v24, (64, [], .tup [.c (.pW (asx3 sv4 fromv tov)), .c (.pI (mplace sv4 (fromv, tov)))])], [e14_0 g, e14_1 g v24, e14_7 sv4 fromv tov]⟩) rfl (by kernel_rfl) o1 ?_
             refine qDT 1 [8] [8, 7, 5, 4, 3, 1, 0] ⟨68, [e14_6 w, sp 2 2, e14_5, sI 7 fromv, sp 9 9, e14_9 ret34v, sI 11 tov, e14_2 g, e14_3 g, sI 24 v24, e14_15, sA 58 [.pI fromv, .pI tov], e14_10 g v24, sI 65 (mplace sv4 (fromv, tov))], [e14_0 g, e14_1 g v24, e14_7 sv4 fromv tov]⟩ (awd_one (i := 2) (by kernel_rfl) ?_)
             refine dsq (ob := True) (st' := ⟨68, [e14_6 w, sp 2 2, e14_5, sI 7 fromv, sp 9 9, e14_9 ret34v, sI 11 tov, e14_2 g, e14_3 g, sI 24 v24, e14_15, s1 59 (.pW (asx4 sv4 fromv tov)), e14_10 g v24, sI 65 (mplace sv4 (fromv, tov))], [e14_0 g, e14_1 g v24, e14_7 sv4 fromv tov]⟩) rfl (by kernel_rfl) trivial ?_
             refine qDT 1 [6] [6, 2, 8, 7, 5, 4, 3, 1, 0] ⟨68, [e14_6 w, sp 2 2, e14_5, sI 7 fromv, sp 9 9, e14_9 ret34v, sI 11 tov, e14_2 g, e14_3 g, sI 24 v24, e14_15, s1 63 (.pW (bOr .u32 (asx4 sv4 fromv tov) (bShl .u32 (1 : Int) ((asx0 g v24).1)))), sI 65 (mplace sv4 (fromv, tov))], [e14_0 g, e14_1 g v24, e14_7 sv4 fromv tov]⟩ (awd_one (i := 9) (by kernel_rfl) ?_)
             obtain ⟨o1, h⟩ := h
             refine dsq (ob := inIdx (mplace sv4 (fromv, tov)) (asx2 sv4 fromv tov).length) (st' := ⟨68, [e14_6 w, sp 2 2, e14_5, sI 7 fromv, sp 9 9, e14_9 ret34v, sI 11 tov, e14_2 g, e14_3 g, sI 24 v24], [e14_0 g, e14_1 g v24, (13, [], .dict (.pr tI tI) (.int .u32) (mputAt (asx2 sv4 fromv tov) ((mplace sv4 (fromv, tov))).toNat (bOr .u32 (asx4 sv4 fromv tov) (bShl .u32 (1 : Int) ((asx0 g v24).1)))))]⟩) rfl (by kernel_rfl) o1 ?_
             refine awd_done (by kernel_rfl) ?_
             exact rest6 (mputAt (asx2 sv4 fromv tov) ((mplace sv4 (fromv, tov))).toNat (bOr .u32 (asx4 sv4 fromv tov) (bShl .u32 (1 : Int) ((asx0 g v24).1)))) h
          ·exact qC ⟨68, [e14_6 w, sp 2 2, e14_5, sB 6 grown4, sI 7 fromv, sp 9 9, e14_9 ret34v, sI 11 tov, e14_2 g, e14_3 g, sI 24 v24], [e14_0 g, e14_1 g v24, e14_4 sv4]⟩ (aw_skip (rest5 (grown4, sv4) h))
        ·exact qC ⟨68, [e14_6 w, sp 2 2, e14_5, sB 6 grown4, sI 7 fromv, e14_2 g, e14_3 g, sI 24 v24], [e14_0 g, e14_4 sv4]⟩ (aw_exit (thenQ_x (thenQ_x (blockQ_hit (rest4 (grown4, sv4) h)))))
      ·exact qC ⟨68, [e14_6 w, sp 2 2, e14_5, sB 6 grown3, sI 7 fromv], [e14_0 g, e14_8 sv3]⟩ (aw_exit (thenQ_x (thenQ_x (blockQ_hit (rest3 (grown3, sv3) h)))))
    ·exact qC ⟨68, [e14_6 w, sp 2 2, e14_5, sB 6 grown2], [e14_0 g, e14_13 sv2]⟩ (aw_exit (thenQ_x (thenQ_x (blockQ_hit (rest2 (grown2, sv2) h)))))
  ·exact qC ⟨68, [e14_5], [e14_12 sv]⟩ (aw_exit (thenQ_x (thenQ_x (blockQ_hit (rest1 sv h)))))
-- slices.Grow[[]coppicer/thicket.spotKey,coppicer/thicket.spotKey]
def VC68_k1 (K : LN → Prop) (sv : LN) : Prop :=
  K sv
def VC68 (n : Int) (K : LN → Prop) : Prop :=
  (((decide (n < (0 : Int))) = true → False) ∧ ((decide (n < (0 : Int))) = false → (InR ((0 : Int) - (0 : Int)) ∧ InR (n - ((0 : Int) - (0 : Int))) ∧ (((decide ((0 : Int) < (n - ((0 : Int) - (0 : Int))))) = true → ((0 ≤ (0 : Int) ∧ (0 : Int) ≤ (0 : Int)) ∧ (0 < (n - ((0 : Int) - (0 : Int))) ∧ (n - ((0 : Int) - (0 : Int))) ≤ 4294967296) ∧ (0 ≤ (0 : Int) ∧ (0 : Int) ≤ ((List.replicate ((n - ((0 : Int) - (0 : Int)))).toNat z3).length : Int)) ∧ VC68_k1 K ((List.replicate ((n - ((0 : Int) - (0 : Int)))).toNat z3).take (((0 : Int)).toNat)))) ∧ ((decide ((0 : Int) < (n - ((0 : Int) - (0 : Int))))) = false → VC68_k1 K ([] : List Lqf))))))
abbrev atx0 (n : Int) := n - ((0 : Int) - (0 : Int))
theorem link68 (n : Int) (K : LN → Prop) (h : VC68 n K) : ACallsO Try.prog 68 [.c .nils, toV1 tI n] 58 t3 K := by
 refine acallsO_of_aw 4 Try.func68 rfl rfl rfl ?_
 unfold VC68 at h
 refine qS 1 ⟨27, [s1 0 (.nils), sI 1 n], []⟩ (aw_seq (qS 2 ⟨27, [s1 0 (.nils), sI 1 n, sB 6 (decide (n < (0 : Int)))], []⟩ (qI h (fun h => ?_) fun h => ?_)))
 ·exact aw_region h.elim
 ·refine aw_skip (thenQ_n (aw_seq (sr ?_)))
  obtain ⟨o1, o2, h⟩ := h
  refine qR 8 ⟨27, [s1 0 (.nils), sI 1 (atx0 n)], []⟩ (ob := Ts 5 (InR ((0 : Int) - (0 : Int)) ∧ InR (atx0 n) ∧ Ts 1 True)) (tsI 5 (⟨o1, ⟨o2, tsI 1 trivial⟩⟩)) ?_
  refine nsr (qT 2 ⟨27, [s1 0 (.nils), sI 1 (atx0 n), sB 16 (decide ((0 : Int) < (atx0 n)))], []⟩ (nn (withJoin (σ := LN) (fun s => ⟨27, [s1 0 (.own 22)], [hA 22 58 t3 s]⟩) (fun s => VC68_k1 K s) (fun sv h => ?_) (fun rest1 => ?_))))
  ·have h : VC68_k1 K sv := h
   unfold VC68_k1 at h
   exact thenQ_n (qS 2 ⟨27, [s1 4 (.own 22)], [hA 22 58 t3 sv]⟩ (aw_ret (⟨22, _, by kernel_rfl, by kernel_rfl, h⟩)))
  ·refine qI h (fun h => ?_) fun h => ?_
   ·refine aw_region ?_
    obtain ⟨o1, o2, o3, h⟩ := h
    refine qR 10 ⟨27, [s1 0 (.vw 22 0 (((0 : Int)).toNat) 3)], [hA 22 58 t3 (List.replicate ((atx0 n)).toNat z3)]⟩ (ob := Ts 3 ((0 ≤ (0 : Int) ∧ (0 : Int) ≤ (0 : Int)) ∧ Ts 1 ((0 < (atx0 n) ∧ (atx0 n) ≤ 4294967296) ∧ Ts 2 ((0 ≤ (0 : Int) ∧ (0 : Int) ≤ ((List.replicate ((atx0 n)).toNat z3).length : Int)) ∧ Ts 1 True)))) (tsI 3 (⟨o1, tsI 1 (⟨o2, tsI 2 ⟨o3, tsI 1 trivial⟩⟩)⟩)) ?_
    exact qW [.cut 0 22] ⟨27, [s1 0 (.own 22)], [hA 22 58 t3 ((List.replicate ((atx0 n)).toNat z3).take (((0 : Int)).toNat))]⟩ (awl_nil (rest1 ((List.replicate ((atx0 n)).toNat z3).take (((0 : Int)).toNat)) h))
   ·exact qV [.prune [0] [], .nilOwn 0 5000 58 t3, .ren 5000 25000, .ren 25000 22] ⟨27, [s1 0 (.own 22)], [hA 22 58 t3 ([] : List Lqf)]⟩ (aw_skip (rest1 ([] : List Lqf) h))
abbrev e59_0 (slices : (List LN)) := s1 0 (.p (.sl (.sl t3)) slices)
abbrev e59_1 (slices : (List LN)) := s1 25 (.p (.sl (.sl t3)) slices)
abbrev e59_2 (slices : (List LN)) := s1 9 (.p (.sl (.sl t3)) slices)
abbrev e59_3 (slices : (List LN)) := sI 10 (slices.length : Int)
abbrev e59_4 (slices : (List LN)) := sI 26 (slices.length : Int)
abbrev e59_5 := s1 6 (.own 24)
-- slices.Concat[[]coppicer/thicket.spotKey,coppicer/thicket.spotKey]
def VC59_k2 (K : LN → Prop) (newslice : LN) : Prop :=
  K newslice
def VC59_l1 (slices : (List LN)) (K : LN → Prop) (v27 : Int) (newslice : LN) (X1 : Int × LN → Prop) : Prop :=
  (((decide (v27 < (slices.length : Int))) = true → (inIdx v27 slices.length ∧ (roomN (newslice.length + (slices.getD (v27).toNat ([] : LN)).length) ∧ (InR (v27 + (1 : Int)) ∧ X1 ((v27 + (1 : Int)), (newslice ++ (slices.getD (v27).toNat ([] : LN)))))))) ∧ ((decide (v27 < (slices.length : Int))) = false → VC59_k2 K newslice))
def VC59_k1 (slices : (List LN)) (K : LN → Prop) (size : Int) : Prop :=
  VC68 size (fun (ret24v : LN) => Loop (σ := Int × LN) (fun s X => VC59_l1 slices K s.1 s.2 X) ((0 : Int), ret24v))
def VC59_l2 (slices : (List LN)) (K : LN → Prop) (size v11 : Int) (X2 : Int × Int → Prop) : Prop :=
  (((decide (v11 < (slices.length : Int))) = true → (inIdx v11 slices.length ∧ (InR (size + ((slices.getD (v11).toNat ([] : LN)).length : Int)) ∧ (((decide ((size + ((slices.getD (v11).toNat ([] : LN)).length : Int)) < (0 : Int))) = true → False) ∧ ((decide ((size + ((slices.getD (v11).toNat ([] : LN)).length : Int)) < (0 : Int))) = false → (InR (v11 + (1 : Int)) ∧ X2 ((size + ((slices.getD (v11).toNat ([] : LN)).length : Int)), (v11 + (1 : Int))))))))) ∧ ((decide (v11 < (slices.length : Int))) = false → VC59_k1 slices K size))
def VC59 (slices : (List LN)) (K : LN → Prop) : Prop :=
  Loop (σ := Int × Int) (fun s X => VC59_l2 slices K s.1 s.2 X) ((0 : Int), (0 : Int))
abbrev aux0 (slices : (List LN)) (v11 : Int) := ((slices.getD (v11).toNat ([] : LN)).length : Int)
theorem link59 (slices : (List LN)) (K : LN → Prop) (h : VC59 slices K) : ACallsO Try.prog 59 [toV1 (.sl (.sl t3)) slices] 58 t3 K := by
 refine acallsO_of_aw 2 Try.func59 rfl rfl rfl ?_
 unfold VC59 at h
 refine sr (qT 1 ⟨36, [e59_0 slices], []⟩ (nsr (qT 1 ⟨36, [e59_0 slices, sI 3 (0 : Int)], []⟩ (nn (aw_seq (qS 3 ⟨36, [e59_0 slices, sI 3 (0 : Int), e59_2 slices, e59_3 slices, sI 11 (0 : Int)], []⟩ (withJoin (σ := Int) (fun s => ⟨36, [e59_0 slices, sI 3 s], []⟩) (fun s => VC59_k1 slices K s) (fun size h => ?_) (fun rest2 => ?_))))))))
 ·have h : VC59_k1 slices K size := h
  unfold VC59_k1 at h
  refine thenQ_n (sr (qT 1 ⟨36, [e59_0 slices, sI 23 size], []⟩ (awl_callOk (e := 58) (t := t3) (l := [.c .nils, toV1 tI size]) (cl := []) false [.nil, .d tI] [0, 24] [24] (fun (ret24v : LN) => Loop (σ := Int × LN) (fun s X => VC59_l1 slices K s.1 s.2 X) ((0 : Int), ret24v)) (fun ret24v => ⟨36, [e59_0 slices, s1 24 (.own 24)], [hA 24 58 t3 ret24v]⟩) rfl rfl (by kernel_rfl) rfl (by kernel_rfl) Try.call68 (by kernel_rfl) (fun e => by cases e) (fun ret24v => by kernel_rfl) (link68 size _ h) (fun ret24v h => ?_))))
  refine qT 1 ⟨36, [e59_0 slices, e59_5], [hA 24 58 t3 ret24v]⟩ (nn (aw_seq (qS 3 ⟨36, [e59_5, e59_1 slices, e59_4 slices, sI 27 (0 : Int)], [hA 24 58 t3 ret24v]⟩ (withJoin (σ := LN) (fun s => ⟨36, [e59_5], [hA 24 58 t3 s]⟩) (fun s => VC59_k2 K s) (fun newslice h => ?_) (fun rest1 => ?_)))))
  ·have h : VC59_k2 K newslice := h
   unfold VC59_k2 at h
   exact thenQ_n (qS 2 ⟨36, [s1 2 (.own 24)], [hA 24 58 t3 newslice]⟩ (aw_ret (⟨24, _, by kernel_rfl, by kernel_rfl, h⟩)))
  ·refine aw_block (aw_loop (σ := Int × LN) (fun s => ⟨36, [e59_5, e59_1 slices, e59_4 slices, sI 27 s.1], [hA 24 58 t3 s.2]⟩) (fun s X => VC59_l1 slices K s.1 s.2 X) (s0 := ((0 : Int), ret24v)) (fun s X1 h => ?_) h)
   obtain ⟨v27, newslice⟩ := s
   have h : VC59_l1 slices K v27 newslice X1 := h
   unfold VC59_l1 at h
   refine qS 1 ⟨36, [e59_5, e59_1 slices, e59_4 slices, sI 27 v27, sB 28 (decide (v27 < (slices.length : Int)))], [hA 24 58 t3 newslice]⟩ (aw_seq (qI h (fun h => ?_) fun h => ?_))
   ·exact aw_skip (thenQ_n (aw_seq (aw_block (sr (qA 3 0 2 ⟨36, [e59_5, s1 8 (.p (.sl t3) (slices.getD (v27).toNat ([] : LN))), e59_1 slices, e59_4 slices, sI 27 v27], [hA 24 58 t3 newslice]⟩ h fun h => nn (aw_region (qA 4 2 1 ⟨36, [s1 6 (.own 33), e59_1 slices, e59_4 slices, sI 27 v27], [hA 33 58 t3 (newslice ++ (slices.getD (v27).toNat ([] : LN)))]⟩ h fun h => awl_nil (blockQ_n (thenQ_n (aw_region (qA 2 0 1 ⟨36, [s1 6 (.own 33), e59_1 slices, e59_4 slices, sI 27 (v27 + (1 : Int))], [hA 33 58 t3 (newslice ++ (slices.getD (v27).toNat ([] : LN)))]⟩ h fun h => qW [.ren 33 20033, .ren 20033 24] ⟨36, [e59_5, e59_1 slices, e59_4 slices, sI 27 (v27 + (1 : Int))], [hA 24 58 t3 (newslice ++ (slices.getD (v27).toNat ([] : LN)))]⟩ (awl_nil (thenQ_n ⟨((v27 + (1 : Int)), (newslice ++ (slices.getD (v27).toNat ([] : LN)))), rfl, h⟩)))))))))))))
   ·exact qC ⟨36, [e59_5], [hA 24 58 t3 newslice]⟩ (aw_exit (thenQ_x (thenQ_x (blockQ_hit (rest1 newslice h)))))
 ·refine aw_block (aw_loop (σ := Int × Int) (fun s => ⟨36, [e59_0 slices, sI 3 s.1, e59_2 slices, e59_3 slices, sI 11 s.2], []⟩) (fun s X => VC59_l2 slices K s.1 s.2 X) (s0 := ((0 : Int), (0 : Int))) (fun s X2 h => ?_) h)
  obtain ⟨size, v11⟩ := s
  have h : VC59_l2 slices K size v11 X2 := h
  unfold VC59_l2 at h
  refine qS 1 ⟨36, [e59_0 slices, sI 3 size, e59_2 slices, e59_3 slices, sI 11 v11, sB 12 (decide (v11 < (slices.length : Int)))], []⟩ (aw_seq (qI h (fun h => ?_) fun h => ?_))
  ·refine aw_skip (thenQ_n (aw_seq (aw_block (sr (qA 3 0 2 ⟨36, [e59_0 slices, sI 3 size, s1 5 (.p (.sl t3) (slices.getD (v11).toNat ([] : LN))), e59_2 slices, e59_3 slices, sI 11 v11], []⟩ h fun h => nsr (qA 5 3 1 ⟨36, [e59_0 slices, sI 3 (size + (aux0 slices v11)), e59_2 slices, e59_3 slices, sI 11 v11], []⟩ h fun h => nsr (qT 2 ⟨36, [e59_0 slices, sI 3 (size + (aux0 slices v11)), e59_2 slices, e59_3 slices, sI 11 v11, sB 20 (decide ((size + (aux0 slices v11)) < (0 : Int)))], []⟩ (nn (qI h (fun h => ?_) fun h => ?_)))))))))
   ·exact aw_region h.elim
   ·exact aw_skip (blockQ_n (thenQ_n (aw_region (qA 2 0 1 ⟨36, [e59_0 slices, sI 3 (size + (aux0 slices v11)), e59_2 slices, e59_3 slices, sI 11 (v11 + (1 : Int))], []⟩ h fun h => awl_nil (thenQ_n ⟨((size + (aux0 slices v11)), (v11 + (1 : Int))), rfl, h⟩)))))
  ·exact qC ⟨36, [e59_0 slices, sI 3 size], []⟩ (aw_exit (thenQ_x (thenQ_x (blockQ_hit (rest2 size h)))))
-- cmp.isNaN[int]
def VC62 (x : Int) (K : Bool → Prop) : Prop :=
  K (!decide (x = x))
theorem link62 (x : Int) (K : Bool → Prop) (h : VC62 x K) : ACalls Try.prog 62 [toV1 tI x] (fun res => ∃ y, res = (fun y => [toV1 .bool y]) y ∧ K y) := by
 refine acalls_of_aw [.bool] [.t 2] Try.func62 rfl rfl rfl ?_
 unfold VC62 at h
 exact sr (qT 1 ⟨6, [sI 0 x], []⟩ (nsr (qT 4 ⟨6, [sB 2 (!decide (x = x))], []⟩ (nn (aw_ret (qE 1 h))))))
-- cmp.Compare[int]
def VC38 (x yv : Int) (K : Int → Prop) : Prop :=
  VC62 x (fun (ret8v : Bool) => VC62 yv (fun (ret10v : Bool) => ((ret8v = true → ((ret10v = true → K (0 : Int)) ∧ (ret10v = false → K (-1 : Int)))) ∧ (ret8v = false → ((ret10v = true → K (1 : Int)) ∧ (ret10v = false → (((decide (x < yv)) = true → K (-1 : Int)) ∧ ((decide (x < yv)) = false → (((decide (yv < x)) = true → K (1 : Int)) ∧ ((decide (yv < x)) = false → K (0 : Int)))))))))))
theorem link38 (x yv : Int) (K : Int → Prop) (h : VC38 x yv K) : ACalls Try.prog 38 [toV1 tI x, toV1 tI yv] (fun res => ∃ y, res = (fun y => [toV1 tI y]) y ∧ K y) := by
 refine acalls_of_aw [tI] [.t 4] Try.func38 rfl rfl rfl ?_
 unfold VC38 at h
 refine sr (qT 1 ⟨20, [sI 0 x, sI 1 yv], []⟩ (nsr (qT 1 ⟨20, [sI 0 x, sI 1 yv, sI 7 x], []⟩ (qK 8 [.d tI] (fun ret8v => ⟨20, [sI 0 x, sI 1 yv, sB 8 ret8v], []⟩) Try.call62 (link62 x _ h) fun ret8v h => ?_))))
 refine qT 1 ⟨20, [sI 0 x, sI 1 yv, sB 5 ret8v], []⟩ (nsr (qT 1 ⟨20, [sI 0 x, sI 1 yv, sB 5 ret8v, sI 9 yv], []⟩ (qK 10 [.d tI] (fun ret10v => ⟨20, [sI 0 x, sI 1 yv, sB 5 ret8v, sB 10 ret10v], []⟩) Try.call62 (link62 yv _ h) fun ret10v h => ?_)))
 refine qT 1 ⟨20, [sI 0 x, sI 1 yv, sB 5 ret8v, sB 6 ret10v], []⟩ (nn (aw_seq (qS 1 ⟨20, [sI 0 x, sI 1 yv, sB 6 ret10v, sB 11 ret8v], []⟩ (qI h (fun h => ?_) fun h => ?_))))
 ·refine aw_seq (qS 1 ⟨20, [sB 12 ret10v], []⟩ (qI h (fun h => ?_) fun h => ?_))
  ·exact qS 1 ⟨20, [sI 4 (0 : Int)], []⟩ (aw_ret (thenQ_r (thenQ_r (qE 1 h))))
  ·exact aw_skip (thenQ_n (qS 1 ⟨20, [sI 4 (-1 : Int)], []⟩ (aw_ret (thenQ_r (qE 1 h)))))
 ·refine aw_skip (thenQ_n (aw_seq (qS 1 ⟨20, [sI 0 x, sI 1 yv, sB 13 ret10v], []⟩ (qI h (fun h => ?_) fun h => ?_))))
  ·exact qS 1 ⟨20, [sI 4 (1 : Int)], []⟩ (aw_ret (thenQ_r (qE 1 h)))
  ·refine aw_skip (thenQ_n (aw_seq (qS 3 ⟨20, [sI 0 x, sI 1 yv, sB 16 (decide (x < yv))], []⟩ (qI h (fun h => ?_) fun h => ?_))))
   ·exact qS 1 ⟨20, [sI 4 (-1 : Int)], []⟩ (aw_ret (thenQ_r (qE 1 h)))
   ·refine aw_skip (thenQ_n (aw_seq (qS 3 ⟨20, [sB 19 (decide (yv < x))], []⟩ (qI h (fun h => ?_) fun h => ?_))))
    ·exact qS 1 ⟨20, [sI 4 (1 : Int)], []⟩ (aw_ret (thenQ_r (qE 1 h)))
    ·exact aw_skip (thenQ_n (qS 1 ⟨20, [sI 4 (0 : Int)], []⟩ (aw_ret (qE 1 h))))
abbrev e37_0 (vals : LI) := sI 7 (vals.length : Int)
abbrev e37_1 := sI 3 (0 : Int)
-- cmp.Or[int]
def VC37_k1 (K : Int → Prop) : Prop :=
  K (0 : Int)
def VC37_l1 (vals : LI) (K : Int → Prop) (v8 : Int) (X1 : Int → Prop) : Prop :=
  (((decide (v8 < (vals.length : Int))) = true → (inIdx v8 vals.length ∧ (((!decide ((vals.getD (v8).toNat (0 : Int)) = (0 : Int))) = true → K (vals.getD (v8).toNat (0 : Int))) ∧ ((!decide ((vals.getD (v8).toNat (0 : Int)) = (0 : Int))) = false → (InR (v8 + (1 : Int)) ∧ X1 (v8 + (1 : Int))))))) ∧ ((decide (v8 < (vals.length : Int))) = false → VC37_k1 K))
def VC37 (vals : LI) (K : Int → Prop) : Prop :=
  Loop (σ := Int) (fun s X => VC37_l1 vals K s X) (0 : Int)
theorem link37 (vals : LI) (K : Int → Prop) (h : VC37 vals K) : ACalls Try.prog 37 [toV1 (.sl tI) vals] (fun res => ∃ y, res = (fun y => [toV1 tI y]) y ∧ K y) := by
 refine acalls_of_aw [tI] [.t 2] Try.func37 rfl rfl rfl ?_
 unfold VC37 at h
 refine sr (qT 1 ⟨18, [s1 0 (.pS vals)], []⟩ (nsr (qT 1 ⟨18, [s1 0 (.pS vals), e37_1], []⟩ (nn (aw_seq (qS 3 ⟨18, [e37_1, s1 6 (.pS vals), e37_0 vals, sI 8 (0 : Int)], []⟩ (withJoin (σ := Unit) (fun s => ⟨18, [e37_1], []⟩) (fun s => VC37_k1 K) (fun s h => ?_) (fun rest1 => ?_))))))))
 ·have h : VC37_k1 K := h
  unfold VC37_k1 at h
  exact thenQ_n (qS 2 ⟨18, [sI 2 (0 : Int)], []⟩ (aw_ret (qE 1 h)))
 ·refine aw_block (aw_loop (σ := Int) (fun s => ⟨18, [e37_1, s1 6 (.pS vals), e37_0 vals, sI 8 s], []⟩) (fun s X => VC37_l1 vals K s X) (s0 := (0 : Int)) (fun v8 X1 h => ?_) h)
  have h : VC37_l1 vals K v8 X1 := h
  unfold VC37_l1 at h
  refine qS 1 ⟨18, [e37_1, s1 6 (.pS vals), e37_0 vals, sI 8 v8, sB 9 (decide (v8 < (vals.length : Int)))], []⟩ (aw_seq (qI h (fun h => ?_) fun h => ?_))
  ·refine aw_skip (thenQ_n (aw_seq (aw_block (sr (qA 3 0 2 ⟨18, [e37_1, sI 5 (vals.getD (v8).toNat (0 : Int)), s1 6 (.pS vals), e37_0 vals, sI 8 v8], []⟩ h fun h => nsr (qT 3 ⟨18, [e37_1, sI 5 (vals.getD (v8).toNat (0 : Int)), s1 6 (.pS vals), e37_0 vals, sI 8 v8, sB 14 (!decide ((vals.getD (v8).toNat (0 : Int)) = (0 : Int)))], []⟩ (nn (qI h (fun h => ?_) fun h => ?_))))))))
   ·exact qS 2 ⟨18, [sI 2 (vals.getD (v8).toNat (0 : Int))], []⟩ (aw_ret (blockQ_r (thenQ_r (thenQ_r (blockQ_r (thenQ_r (qE 1 h)))))))
   ·exact aw_skip (blockQ_n (thenQ_n (aw_region (qA 2 0 1 ⟨18, [e37_1, s1 6 (.pS vals), e37_0 vals, sI 8 (v8 + (1 : Int))], []⟩ h fun h => awl_nil (thenQ_n ⟨(v8 + (1 : Int)), rfl, h⟩)))))
  ·exact qC ⟨18, [e37_1], []⟩ (aw_exit (thenQ_x (thenQ_x (blockQ_hit (rest1 () h)))))
-- (*coppicer/thicket.grower).forest$1
def VC36 (a b : Lqf) (K : Int → Prop) : Prop :=
  VC38 a.2.1 b.2.1 (fun (ret11v : Int) => VC38 a.2.2 b.2.2 (fun (ret18v : Int) => VC38 a.1 b.1 (fun (ret23v : Int) => VC37 [ret11v, ret18v, ret23v] (fun (ret25v : Int) => K ret25v))))
theorem link36 (a b : Lqf) (K : Int → Prop) (h : VC36 a b K) : ACalls Try.prog 36 [toV1 t3 a, toV1 t3 b] (fun res => ∃ y, res = (fun y => [toV1 tI y]) y ∧ K y) := by
 refine acalls_of_aw [tI] [.t 4] Try.func36 rfl rfl rfl ?_
 unfold VC36 at h
 refine qS 3 ⟨26, [sp 2 2, sp 3 3], [hB 2 [.pI a.1, .pI a.2.1, .pI a.2.2], hB 3 [.pI b.1, .pI b.2.1, .pI b.2.2]]⟩ (aw_seq (awd_begin [] (by kernel_rfl) ?_))
 refine qDT 16 [0, 1, 2, 3, 4, 5, 7, 8, 9, 10, 11, 12, 14, 15, 16, 17] [17, 16, 15, 14, 12, 11, 10, 9, 8, 7, 5, 4, 3, 2, 1, 0] ⟨26, [sI 7 a.2.1, sI 10 b.2.1, sI 14 a.2.2, sI 17 b.2.2, sI 20 a.1, sI 22 b.1], []⟩ (awd_one (i := 6) (by kernel_rfl) ?_)
 refine dcq (d := 11) [.d tI, .d tI] (fun ret11v => ⟨26, [sI 11 ret11v, sI 14 a.2.2, sI 17 b.2.2, sI 20 a.1, sI 22 b.1], []⟩) rfl (by kernel_rfl) Try.call38 (fun _ => by kernel_rfl) (link38 a.2.1 b.2.1 _ h) (fun ret11v h => (awd_one (i := 13) (by kernel_rfl) ?_))
 refine dcq (d := 18) [.d tI, .d tI] (fun ret18v => ⟨26, [sI 11 ret11v, sI 18 ret18v, sI 20 a.1, sI 22 b.1], []⟩) rfl (by kernel_rfl) Try.call38 (fun _ => by kernel_rfl) (link38 a.2.2 b.2.2 _ h) (fun ret18v h => (awd_one (i := 18) (by kernel_rfl) ?_))
 refine dcq (d := 23) [.d tI, .d tI] (fun ret23v => ⟨26, [sI 11 ret11v, sI 18 ret18v, sI 23 ret23v], []⟩) rfl (by kernel_rfl) Try.call38 (fun _ => by kernel_rfl) (link38 a.1 b.1 _ h) (fun ret23v h => (awd_one (i := 19) (by kernel_rfl) ?_))
 refine dsq (ob := True) (st' := ⟨26, [s1 24 (.own 24)], [hA 24 3 tI [ret11v, ret18v, ret23v]]⟩) rfl (by kernel_rfl) trivial ?_
 refine awd_one (i := 20) (by kernel_rfl) ?_
 refine adop_callk (p := []) (l := [toV1 (.sl tI) [ret11v, ret18v, ret23v]]) (cl := []) true [.d (.sl tI)] [25] [] (fun (ret25v : Int) => K ret25v) (fun ret25v => [toV1 tI ret25v]) (fun ret25v => ⟨26, [sI 25 ret25v], []⟩) rfl (by kernel_rfl) rfl (by kernel_rfl) rfl (by kernel_rfl) Try.call37 (by kernel_rfl) (fun ret25v => by kernel_rfl) (fun _ _ => rfl) (fun hg => link37 [ret11v, ret18v, ret23v] _ h) (fun hg => noF hg) (fun ret25v h => ?_)
 refine qDT 1 [21] [21, 20, 19, 18, 13, 6, 17, 16, 15, 14, 12, 11, 10, 9, 8, 7, 5, 4, 3, 2, 1, 0] ⟨26, [sI 4 ret25v], []⟩ (awd_done (by kernel_rfl) ?_)
 exact thenQ_n (aw_ret (qE 1 h))
abbrev e40_0 (s1v : LI) := sI 10 (s1v.length : Int)
abbrev e40_1 (s1v : LI) := s1 0 (.pS s1v)
abbrev e40_2 (s2v : LI) := s1 1 (.pS s2v)
-- slices.Compare[[]int,int]
def VC40_k1 (s1v s2v : LI) (K : Int → Prop) : Prop :=
  (((decide ((s1v.length : Int) < (s2v.length : Int))) = true → K (-1 : Int)) ∧ ((decide ((s1v.length : Int) < (s2v.length : Int))) = false → K (0 : Int)))
def VC40_l1 (s1v s2v : LI) (K : Int → Prop) (v11 : Int) (X1 : Int → Prop) : Prop :=
  (((decide (v11 < (s1v.length : Int))) = true → (inIdx v11 s1v.length ∧ (((decide ((s2v.length : Int) ≤ v11)) = true → K (1 : Int)) ∧ ((decide ((s2v.length : Int) ≤ v11)) = false → (inIdx v11 s2v.length ∧ VC38 (s1v.getD (v11).toNat (0 : Int)) (s2v.getD (v11).toNat (0 : Int)) (fun (ret26v : Int) => (((!decide (ret26v = (0 : Int))) = true → K ret26v) ∧ ((!decide (ret26v = (0 : Int))) = false → (InR (v11 + (1 : Int)) ∧ X1 (v11 + (1 : Int))))))))))) ∧ ((decide (v11 < (s1v.length : Int))) = false → VC40_k1 s1v s2v K))
def VC40 (s1v s2v : LI) (K : Int → Prop) : Prop :=
  Loop (σ := Int) (fun s X => VC40_l1 s1v s2v K s X) (0 : Int)
theorem link40 (s1v s2v : LI) (K : Int → Prop) (h : VC40 s1v s2v K) : ACalls Try.prog 40 [toV1 (.sl tI) s1v, toV1 (.sl tI) s2v] (fun res => ∃ y, res = (fun y => [toV1 tI y]) y ∧ K y) := by
 refine acalls_of_aw [tI] [.t 4] Try.func40 rfl rfl rfl ?_
 unfold VC40 at h
 refine qS 1 ⟨36, [e40_1 s1v, e40_2 s2v], []⟩ (aw_seq (qS 3 ⟨36, [e40_1 s1v, e40_2 s2v, s1 9 (.pS s1v), e40_0 s1v, sI 11 (0 : Int)], []⟩ (withJoin (σ := Unit) (fun s => ⟨36, [e40_1 s1v, e40_2 s2v], []⟩) (fun s => VC40_k1 s1v s2v K) (fun s h => ?_) (fun rest1 => ?_))))
 ·have h : VC40_k1 s1v s2v K := h
  unfold VC40_k1 at h
  refine thenQ_n (aw_seq (qS 5 ⟨36, [sB 35 (decide ((s1v.length : Int) < (s2v.length : Int)))], []⟩ (qI h (fun h => ?_) fun h => ?_)))
  ·exact qS 1 ⟨36, [sI 4 (-1 : Int)], []⟩ (aw_ret (thenQ_r (qE 1 h)))
  ·exact aw_skip (thenQ_n (qS 1 ⟨36, [sI 4 (0 : Int)], []⟩ (aw_ret (qE 1 h))))
 ·refine aw_block (aw_loop (σ := Int) (fun s => ⟨36, [e40_1 s1v, e40_2 s2v, s1 9 (.pS s1v), e40_0 s1v, sI 11 s], []⟩) (fun s X => VC40_l1 s1v s2v K s X) (s0 := (0 : Int)) (fun v11 X1 h => ?_) h)
  have h : VC40_l1 s1v s2v K v11 X1 := h
  unfold VC40_l1 at h
  refine qS 1 ⟨36, [e40_1 s1v, e40_2 s2v, s1 9 (.pS s1v), e40_0 s1v, sI 11 v11, sB 12 (decide (v11 < (s1v.length : Int)))], []⟩ (aw_seq (qI h (fun h => ?_) fun h => ?_))
  ·refine aw_skip (thenQ_n (aw_seq (aw_block (sr (qA 5 1 3 ⟨36, [e40_1 s1v, e40_2 s2v, sI 5 v11, sI 6 (s1v.getD (v11).toNat (0 : Int)), s1 9 (.pS s1v), e40_0 s1v, sI 11 v11], []⟩ h fun h => nn (aw_seq (qS 4 ⟨36, [e40_1 s1v, e40_2 s2v, sI 5 v11, sI 6 (s1v.getD (v11).toNat (0 : Int)), s1 9 (.pS s1v), e40_0 s1v, sI 11 v11, sB 19 (decide ((s2v.length : Int) ≤ v11))], []⟩ (qI h (fun h => ?_) fun h => ?_))))))))
   ·exact qS 1 ⟨36, [sI 4 (1 : Int)], []⟩ (aw_ret (thenQ_r (blockQ_r (thenQ_r (thenQ_r (blockQ_r (thenQ_r (qE 1 h))))))))
   ·refine aw_skip (thenQ_n (sr (qA 5 2 2 ⟨36, [e40_1 s1v, e40_2 s2v, sI 6 (s1v.getD (v11).toNat (0 : Int)), sI 7 (s2v.getD (v11).toNat (0 : Int)), s1 9 (.pS s1v), e40_0 s1v, sI 11 v11], []⟩ h fun h => nsr (qT 2 ⟨36, [e40_1 s1v, e40_2 s2v, s1 9 (.pS s1v), e40_0 s1v, sI 11 v11, sI 24 (s1v.getD (v11).toNat (0 : Int)), sI 25 (s2v.getD (v11).toNat (0 : Int))], []⟩ (qK 26 [.d tI, .d tI] (fun ret26v => ⟨36, [e40_1 s1v, e40_2 s2v, s1 9 (.pS s1v), e40_0 s1v, sI 11 v11, sI 26 ret26v], []⟩) Try.call38 (link38 (s1v.getD (v11).toNat (0 : Int)) (s2v.getD (v11).toNat (0 : Int)) _ h) fun ret26v h => ?_)))))
    refine qT 1 ⟨36, [e40_1 s1v, e40_2 s2v, sI 8 ret26v, s1 9 (.pS s1v), e40_0 s1v, sI 11 v11], []⟩ (nsr (qT 2 ⟨36, [e40_1 s1v, e40_2 s2v, sI 8 ret26v, s1 9 (.pS s1v), e40_0 s1v, sI 11 v11, sB 28 (!decide (ret26v = (0 : Int)))], []⟩ (nn (qI h (fun h => ?_) fun h => ?_))))
    ·exact qS 2 ⟨36, [sI 4 ret26v], []⟩ (aw_ret (blockQ_r (thenQ_r (thenQ_r (blockQ_r (thenQ_r (qE 1 h)))))))
    ·exact aw_skip (blockQ_n (thenQ_n (aw_region (qA 2 0 1 ⟨36, [e40_1 s1v, e40_2 s2v, s1 9 (.pS s1v), e40_0 s1v, sI 11 (v11 + (1 : Int))], []⟩ h fun h => awl_nil (thenQ_n ⟨(v11 + (1 : Int)), rfl, h⟩)))))
  ·exact qC ⟨36, [e40_1 s1v, e40_2 s2v], []⟩ (aw_exit (thenQ_x (thenQ_x (blockQ_hit (rest1 () h)))))
abbrev e6_0 (c0 c1 c2 : Int) (c3 : LR) (c4 : LI) (c5 : Lqc) := hB 70000 [.pI c0, .pI c1, .pI c2, .p (.sl tR) c3, .pS c4, .p (.mp (.pr tI tI) (.int .u32)) c5, .own 70001]
abbrev e6_1 (c6 : Lqb) : Nat × Path × Con := (70001, [], .dict t3 (.sl (.pr tI (.sl t3))) c6)
abbrev e6_2 (signs over : Int) := hB 5 [.pI signs, .pI over]
abbrev e6_3 (signs endv : Int) := hB 9 [.pI signs, .pI endv]
abbrev e6_4 (ret77v : (List LN)) := s1 77 (.p (.sl (.sl t3)) ret77v)
abbrev e6_5 := sp 97 70000
abbrev e6_6 (rv : LI) := s1 1 (.pS rv)
abbrev e6_7 := s1 7 (.own 5007)
abbrev e6_8 (ret77v : (List LN)) := sI 78 (ret77v.length : Int)
abbrev e6_9 := sp 0 70000
abbrev e6_10 (out2 : (List LN)) := hA 5007 87 (.sl t3) out2
abbrev e6_11 (out : (List LN)) := hA 5007 87 (.sl t3) out
abbrev e6_12 := s1 83 (.own 5007)
abbrev e6_n0 : List Nat := [0, 1, 2, 3, 4, 5, 6, 7, 8, 9, 10, 11, 12, 13, 14, 15]
abbrev e6_n1 : List Nat := [15, 14, 13, 12, 11, 10, 9, 8, 7, 6, 5, 4, 3, 2, 1, 0]
-- (*coppicer/thicket.grower).rows
def VCc34_k1 (K : (List LN) → Prop) (out : (List LN)) : Prop :=
  K out
def VCc34_k2 (endv : Int) (X1 : Int × (List LN) → Prop) (out2 : (List LN)) : Prop :=
  (InR (endv + (1 : Int)) ∧ X1 ((endv + (1 : Int)), out2))
def VCc34_k3 (endv : Int) (X1 : Int × (List LN) → Prop) (out2 : (List LN)) : Prop :=
  VCc34_k2 endv X1 out2
def VCc34_l2 (rv : LI) (signs endv : Int) (X1 : Int × (List LN) → Prop) (ret77v : (List LN)) (v79 : Int) (out2 : (List LN)) (X2 : Int × (List LN) → Prop) : Prop :=
  (((decide (v79 < (ret77v.length : Int))) = true → (inIdx v79 ret77v.length ∧ (inIdx (0 : Int) rv.length ∧ VC59 [[((rv.getD ((0 : Int)).toNat (0 : Int)), (signs, endv))], (ret77v.getD (v79).toNat ([] : LN))] (fun (ret92v : LN) => (roomN (out2.length + [ret92v].length) ∧ (InR (v79 + (1 : Int)) ∧ X2 ((v79 + (1 : Int)), (out2 ++ [ret92v])))))))) ∧ ((decide (v79 < (ret77v.length : Int))) = false → VCc34_k3 endv X1 out2))
def VCc34_l1 (c0 c1 c2 : Int) (c3 : LR) (c4 : LI) (c5 : Lqc) (R : LI → Int → Int → ((List LN) → Prop) → Prop) (rv : LI) (signs over : Int) (K : (List LN) → Prop) (endv : Int) (out : (List LN)) (X1 : Int × (List LN) → Prop) : Prop :=
  (((decide (endv < over)) = true → (inIdx (0 : Int) rv.length ∧ VC58 c5 (c0, (c1, (c2, c3))) c4 (rv.getD ((0 : Int)).toNat (0 : Int)) (signs, endv) (fun (ret68v : Bool) => (((!ret68v) = true → VCc34_k2 endv X1 out) ∧ ((!ret68v) = false → ((0 ≤ (1 : Int) ∧ (1 : Int) ≤ (rv.length : Int)) ∧ R (rv.drop ((1 : Int)).toNat) endv over (fun (ret77v : (List LN)) => Loop (σ := Int × (List LN)) (fun s X => VCc34_l2 rv signs endv X1 ret77v s.1 s.2 X) ((0 : Int), out)))))))) ∧ ((decide (endv < over)) = false → VCc34_k1 K out))
def VCc34 (c0 c1 c2 : Int) (c3 : LR) (c4 : LI) (c5 : Lqc) (c6 : Lqb) (R : LI → Int → Int → ((List LN) → Prop) → Prop) (rv : LI) (signs over : Int) (K : (List LN) → Prop) : Prop :=
  (((decide ((rv.length : Int) = (1 : Int))) = true → (inIdx (0 : Int) rv.length ∧ VC58 c5 (c0, (c1, (c2, c3))) c4 (rv.getD ((0 : Int)).toNat (0 : Int)) (signs, over) (fun (ret31v : Bool) => ((ret31v = true → (inIdx (0 : Int) rv.length ∧ K [[((rv.getD ((0 : Int)).toNat (0 : Int)), (signs, over))]])) ∧ (ret31v = false → K ([] : List LN)))))) ∧ ((decide ((rv.length : Int) = (1 : Int))) = false → (InR (signs + (1 : Int)) ∧ Loop (σ := Int × (List LN)) (fun s X => VCc34_l1 c0 c1 c2 c3 c4 c5 R rv signs over K s.1 s.2 X) ((signs + (1 : Int)), ([] : List LN)))))
abbrev aabx0 (rv : LI) := rv.getD ((0 : Int)).toNat (0 : Int)
abbrev aabx1 (ret77v : (List LN)) (v79 : Int) := ret77v.getD (v79).toNat ([] : LN)
theorem linkc34 (c0 c1 c2 : Int) (c3 : LR) (c4 : LI) (c5 : Lqc) (c6 : Lqb) (R : LI → Int → Int → ((List LN) → Prop) → Prop) (hR : ∀ (rv : LI) (signs over : Int) (K : (List LN) → Prop), R rv signs over K → LCalls Try.prog 34 [70000, 70001] [70000] [e6_0 c0 c1 c2 c3 c4 c5, e6_1 c6] [.c (.ptr 70000 0), .c (.pS rv), .agg [.pI signs, .pI over]] (fun av hp' => ∃ y : (List LN), av = .v (.c (.p (.sl (.sl t3)) y)) ∧ hp' = [e6_0 c0 c1 c2 c3 c4 c5, e6_1 c6] ∧ K y)) (rv : LI) (signs over : Int) (K : (List LN) → Prop) (h : VCc34 c0 c1 c2 c3 c4 c5 c6 R rv signs over K) : LCalls Try.prog 34 [70000, 70001] [70000] [e6_0 c0 c1 c2 c3 c4 c5, e6_1 c6] [.c (.ptr 70000 0), .c (.pS rv), .agg [.pI signs, .pI over]] (fun av hp' => ∃ y : (List LN), av = .v (.c (.p (.sl (.sl t3)) y)) ∧ hp' = [e6_0 c0 c1 c2 c3 c4 c5, e6_1 c6] ∧ K y) := by
 refine lcalls_of_aw [70000, 70001] [70000] [.t 6] Try.func34 rfl rfl (by kernel_rfl) (by kernel_rfl) (by kernel_rfl) ?_
 refine qV [] ⟨97, [e6_9, e6_6 rv, sA 2 [.pI signs, .pI over], e6_5], [e6_0 c0 c1 c2 c3 c4 c5, e6_1 c6]⟩ ?_
 unfold VCc34 at h
 refine qS 2 ⟨97, [e6_9, e6_6 rv, sp 5 5, e6_5], [e6_2 signs over, e6_0 c0 c1 c2 c3 c4 c5, e6_1 c6]⟩ (aw_seq (qS 3 ⟨97, [e6_9, e6_6 rv, sp 5 5, sB 14 (decide ((rv.length : Int) = (1 : Int))), e6_5], [e6_2 signs over, e6_0 c0 c1 c2 c3 c4 c5, e6_1 c6]⟩ (qI h (fun h => ?_) fun h => ?_)))
 ·refine aw_seq (aw_seq (awd_begin [] (by kernel_rfl) ?_))
  obtain ⟨o1, h⟩ := h
  refine qDO 13 2 e6_n0 e6_n1 ⟨97, [e6_6 rv, sp 5 5, s1 18 (.p (.mp (.pr tI tI) (.int .u32)) c5), sA 22 [.pI c0, .pI c1, .pI c2, .p (.sl tR) c3], s1 26 (.pS c4), sI 29 (aabx0 rv), sA 30 [.pI signs, .pI over], e6_5], [e6_2 signs over, e6_0 c0 c1 c2 c3 c4 c5, e6_1 c6]⟩ o1 (awd_one (i := 16) (by kernel_rfl) ?_)
  refine dcq (d := 31) [.d (.mp (.pr tI tI) (.int .u32)), .d tG, .d (.sl tI), .d tI, .d (.pr tI tI)] (fun ret31v => ⟨97, [e6_6 rv, sp 5 5, sB 31 ret31v, e6_5], [e6_2 signs over, e6_0 c0 c1 c2 c3 c4 c5, e6_1 c6]⟩) rfl (by kernel_rfl) Try.call58 (fun _ => by kernel_rfl) (link58 c5 (c0, (c1, (c2, c3))) c4 (aabx0 rv) (signs, over) _ h) (fun ret31v h => (awd_done (by kernel_rfl) ?_))
  refine thenQ_n (qI h (fun h => ?_) fun h => ?_)
  ·refine aw_seq (awd_begin [] (by kernel_rfl) ?_)
   obtain ⟨o1, h⟩ := h
   refine qDO 1 3 [0, 1, 2, 3, 4] [4, 3, 2, 1, 0] ⟨97, [sA 36 [.pI (aabx0 rv), .pI signs, .pI over], e6_5], [e6_0 c0 c1 c2 c3 c4 c5, e6_1 c6]⟩ o1 (awd_one (i := 5) (by kernel_rfl) ?_)
   refine dsq (ob := True) (st' := ⟨97, [s1 37 (.own 37), e6_5], [hA 37 58 t3 [((aabx0 rv), (signs, over))], e6_0 c0 c1 c2 c3 c4 c5, e6_1 c6]⟩) rfl (by kernel_rfl) trivial ?_
   refine awd_conv [.freeze 37] (st' := ⟨97, [s1 37 (.p (.sl t3) [((aabx0 rv), (signs, over))]), e6_5], [e6_0 c0 c1 c2 c3 c4 c5, e6_1 c6]⟩) (by kernel_rfl) rfl ?_
   refine awd_one (i := 6) (by kernel_rfl) ?_
   refine dsq (ob := True) (st' := ⟨97, [s1 38 (.own 38), e6_5], [hA 38 87 (.sl t3) [[((aabx0 rv), (signs, over))]], e6_0 c0 c1 c2 c3 c4 c5, e6_1 c6]⟩) rfl (by kernel_rfl) trivial ?_
   refine qDT 1 [7] [7, 6, 5, 4, 3, 2, 1, 0] ⟨97, [s1 6 (.own 38), e6_5], [hA 38 87 (.sl t3) [[((aabx0 rv), (signs, over))]], e6_0 c0 c1 c2 c3 c4 c5, e6_1 c6]⟩ (awd_done (by kernel_rfl) ?_)
   exact thenQ_n (qV [.freeze 38] ⟨97, [s1 6 (.p (.sl (.sl t3)) [[((aabx0 rv), (signs, over))]]), e6_5], [e6_0 c0 c1 c2 c3 c4 c5, e6_1 c6]⟩ (aw_ret (thenQ_r (thenQ_r (lret_r (σ := (List LN)) (A := fun y => .v (.c (.p (.sl (.sl t3)) y))) (H := fun y => [e6_0 c0 c1 c2 c3 c4 c5, e6_1 c6]) (ob := True) [[((aabx0 rv), (signs, over))]] (by kernel_rfl) trivial rfl (by kernel_rfl) (by kernel_rfl) (by kernel_rfl) h)))))
  ·exact aw_skip (thenQ_n (qS 1 ⟨97, [s1 6 (.nils), e6_5], [e6_0 c0 c1 c2 c3 c4 c5, e6_1 c6]⟩ (qV [.nilP 6 (.sl t3)] ⟨97, [s1 6 (.p (.sl (.sl t3)) ([] : List LN)), e6_5], [e6_0 c0 c1 c2 c3 c4 c5, e6_1 c6]⟩ (aw_ret (thenQ_r (lret_r (σ := (List LN)) (A := fun y => .v (.c (.p (.sl (.sl t3)) y))) (H := fun y => [e6_0 c0 c1 c2 c3 c4 c5, e6_1 c6]) (ob := True) ([] : List LN) (by kernel_rfl) trivial rfl (by kernel_rfl) (by kernel_rfl) (by kernel_rfl) h))))))
 ·refine aw_skip (thenQ_n (qS 1 ⟨97, [e6_9, e6_6 rv, sp 5 5, s1 7 (.nils), e6_5], [e6_2 signs over, e6_0 c0 c1 c2 c3 c4 c5, e6_1 c6]⟩ (aw_seq (sr (qA 4 2 1 ⟨97, [e6_9, e6_6 rv, sp 5 5, s1 7 (.nils), sI 8 (signs + (1 : Int)), e6_5], [e6_2 signs over, e6_0 c0 c1 c2 c3 c4 c5, e6_1 c6]⟩ h fun h => nn (withJoin (σ := (List LN)) (fun s => ⟨97, [e6_7, e6_5], [hA 5007 87 (.sl t3) s, e6_0 c0 c1 c2 c3 c4 c5, e6_1 c6]⟩) (fun s => VCc34_k1 K s) (fun out h => ?_) (fun rest1 => ?_)))))))
  ·have h : VCc34_k1 K out := h
   unfold VCc34_k1 at h
   exact thenQ_n (qS 2 ⟨97, [s1 6 (.own 5007), e6_5], [e6_11 out, e6_0 c0 c1 c2 c3 c4 c5, e6_1 c6]⟩ (qV [.freeze 5007] ⟨97, [s1 6 (.p (.sl (.sl t3)) out), e6_5], [e6_0 c0 c1 c2 c3 c4 c5, e6_1 c6]⟩ (aw_ret (lret_r (σ := (List LN)) (A := fun y => .v (.c (.p (.sl (.sl t3)) y))) (H := fun y => [e6_0 c0 c1 c2 c3 c4 c5, e6_1 c6]) (ob := True) out (by kernel_rfl) trivial rfl (by kernel_rfl) (by kernel_rfl) (by kernel_rfl) h))))
  ·refine aw_block (qV [.nilOwn 7 5007 87 (.sl t3), .prune [0, 1, 5, 7, 8, 97] [5, 5007, 70000, 70001]] ⟨97, [e6_9, e6_6 rv, sp 5 5, e6_7, sI 8 (signs + (1 : Int)), e6_5], [e6_2 signs over, hA 5007 87 (.sl t3) ([] : List LN), e6_0 c0 c1 c2 c3 c4 c5, e6_1 c6]⟩ (aw_loop (σ := Int × (List LN)) (fun s => ⟨97, [e6_9, e6_6 rv, sp 5 5, e6_7, sI 8 s.1, e6_5], [e6_2 signs over, hA 5007 87 (.sl t3) s.2, e6_0 c0 c1 c2 c3 c4 c5, e6_1 c6]⟩) (fun s X => VCc34_l1 c0 c1 c2 c3 c4 c5 R rv signs over K s.1 s.2 X) (s0 := ((signs + (1 : Int)), ([] : List LN))) (fun s X1 h => ?_) h))
   obtain ⟨endv, out⟩ := s
   have h : VCc34_l1 c0 c1 c2 c3 c4 c5 R rv signs over K endv out X1 := h
   unfold VCc34_l1 at h
   refine aw_seq (qS 4 ⟨97, [e6_9, e6_6 rv, sp 5 5, e6_7, sI 8 endv, sB 45 (decide (endv < over)), e6_5], [e6_2 signs over, e6_11 out, e6_0 c0 c1 c2 c3 c4 c5, e6_1 c6]⟩ (qI h (fun h => ?_) fun h => ?_))
   ·refine aw_skip (thenQ_n (aw_seq (withJoin (σ := (List LN)) (fun s => ⟨97, [e6_9, e6_6 rv, sp 5 5, e6_7, sI 8 endv, e6_5], [e6_2 signs over, hA 5007 87 (.sl t3) s, e6_0 c0 c1 c2 c3 c4 c5, e6_1 c6]⟩) (fun s => VCc34_k2 endv X1 s) (fun out2 h => ?_) (fun rest2 => ?_))))
    ·have h : VCc34_k2 endv X1 out2 := h
     unfold VCc34_k2 at h
     exact thenQ_n (aw_region (qA 3 1 1 ⟨97, [e6_9, e6_6 rv, sp 5 5, e6_7, sI 8 (endv + (1 : Int)), e6_5], [e6_2 signs over, e6_10 out2, e6_0 c0 c1 c2 c3 c4 c5, e6_1 c6]⟩ h fun h => awl_nil (thenQ_n ⟨((endv + (1 : Int)), out2), rfl, h⟩)))
    ·refine aw_block (qS 6 ⟨97, [e6_9, e6_6 rv, sp 5 5, e6_7, sI 8 endv, sp 9 9, e6_5], [e6_2 signs over, e6_3 signs endv, e6_11 out, e6_0 c0 c1 c2 c3 c4 c5, e6_1 c6]⟩ (aw_seq (aw_seq (awd_begin [] (by kernel_rfl) ?_))))
     obtain ⟨o1, h⟩ := h
     refine qDO 13 2 e6_n0 e6_n1 ⟨97, [e6_9, e6_6 rv, sp 5 5, e6_7, sI 8 endv, sp 9 9, s1 55 (.p (.mp (.pr tI tI) (.int .u32)) c5), sA 59 [.pI c0, .pI c1, .pI c2, .p (.sl tR) c3], s1 63 (.pS c4), sI 66 (aabx0 rv), sA 67 [.pI signs, .pI endv], e6_5], [e6_2 signs over, e6_3 signs endv, e6_11 out, e6_0 c0 c1 c2 c3 c4 c5, e6_1 c6]⟩ o1 (awd_one (i := 16) (by kernel_rfl) ?_)
     refine dcq (d := 68) [.d (.mp (.pr tI tI) (.int .u32)), .d tG, .d (.sl tI), .d tI, .d (.pr tI tI)] (fun ret68v => ⟨97, [e6_9, e6_6 rv, sp 5 5, e6_7, sI 8 endv, sp 9 9, sB 68 ret68v, e6_5], [e6_2 signs over, e6_3 signs endv, e6_11 out, e6_0 c0 c1 c2 c3 c4 c5, e6_1 c6]⟩) rfl (by kernel_rfl) Try.call58 (fun _ => by kernel_rfl) (link58 c5 (c0, (c1, (c2, c3))) c4 (aabx0 rv) (signs, endv) _ h) (fun ret68v h => (qDT 1 [17] [17, 16, 15, 14, 13, 12, 11, 10, 9, 8, 7, 6, 5, 4, 3, 2, 1, 0] ⟨97, [e6_9, e6_6 rv, sp 5 5, e6_7, sI 8 endv, sp 9 9, sB 69 (!ret68v), e6_5], [e6_2 signs over, e6_3 signs endv, e6_11 out, e6_0 c0 c1 c2 c3 c4 c5, e6_1 c6]⟩ (awd_done (by kernel_rfl) ?_)))
     refine thenQ_n (qI h (fun h => ?_) fun h => ?_)
     ·exact qC ⟨97, [e6_9, e6_6 rv, sp 5 5, e6_7, sI 8 endv, e6_5], [e6_2 signs over, e6_11 out, e6_0 c0 c1 c2 c3 c4 c5, e6_1 c6]⟩ (aw_exit (thenQ_x (blockQ_hit (rest2 out h))))
     ·refine aw_skip (thenQ_n (aw_seq (awd_begin [70000, 70001] (by kernel_rfl) ?_)))
      obtain ⟨o1, h⟩ := h
      refine qDO 2 5 [0, 1, 2, 3, 4, 5, 6, 9] [9, 6, 5, 4, 3, 2, 1, 0] ⟨97, [e6_9, e6_6 rv, sp 5 5, e6_7, sI 8 endv, sp 9 9, sp 70 70000, s1 72 (.pS (rv.drop ((1 : Int)).toNat)), sA 76 [.pI endv, .pI over], sI 79 (0 : Int), e6_5], [e6_2 signs over, e6_3 signs endv, e6_11 out, e6_0 c0 c1 c2 c3 c4 c5, e6_1 c6]⟩ o1 (awd_one (i := 7) (by kernel_rfl) ?_)
      refine adop_lcall (σ := (List LN)) [70000, 70001] [70000] [.c (.ptr 70000 0), .c (.pS (rv.drop ((1 : Int)).toNat)), .agg [.pI endv, .pI over]] [] (fun ret77v => .v (.c (.p (.sl (.sl t3)) ret77v))) (fun ret77v => [e6_0 c0 c1 c2 c3 c4 c5, e6_1 c6]) (_) [e6_0 c0 c1 c2 c3 c4 c5, e6_1 c6] (fun ret77v => ⟨97, [e6_4 ret77v, e6_9, e6_6 rv, sp 5 5, e6_7, sI 8 endv, sp 9 9, sp 70 70000, s1 72 (.pS (rv.drop ((1 : Int)).toNat)), sA 76 [.pI endv, .pI over], sI 79 (0 : Int), e6_5], [e6_0 c0 c1 c2 c3 c4 c5, e6_1 c6, e6_2 signs over, e6_3 signs endv, e6_11 out]⟩) rfl (by kernel_rfl) rfl rfl (by kernel_rfl) rfl (by kernel_rfl) Try.call34 (by kernel_rfl) (by kernel_rfl) (by kernel_rfl) (fun _ _ => rfl) (fun _ => by kernel_rfl) (hR (rv.drop ((1 : Int)).toNat) endv over _ h) (fun ret77v h => ?_)
      refine dpr (st' := ⟨97, [e6_9, e6_6 rv, sp 5 5, e6_7, sI 8 endv, sp 9 9, e6_4 ret77v, sI 79 (0 : Int), e6_5], [e6_2 signs over, e6_3 signs endv, e6_11 out, e6_0 c0 c1 c2 c3 c4 c5, e6_1 c6]⟩) (by kernel_rfl) (qDT 1 [8] [8, 7, 9, 6, 5, 4, 3, 2, 1, 0] ⟨97, [e6_9, e6_6 rv, sp 5 5, e6_7, sI 8 endv, sp 9 9, e6_4 ret77v, e6_8 ret77v, sI 79 (0 : Int), e6_5], [e6_2 signs over, e6_3 signs endv, e6_11 out, e6_0 c0 c1 c2 c3 c4 c5, e6_1 c6]⟩ (awd_done (by kernel_rfl) ?_))
      refine thenQ_n (withJoin (σ := (List LN)) (fun s => ⟨97, [e6_9, e6_6 rv, sp 5 5, e6_7, sI 8 endv, e6_5], [e6_2 signs over, hA 5007 87 (.sl t3) s, e6_0 c0 c1 c2 c3 c4 c5, e6_1 c6]⟩) (fun s => VCc34_k3 endv X1 s) (fun out2 h => ?_) (fun rest3 => ?_))
      ·have h : VCc34_k3 endv X1 out2 := h
       unfold VCc34_k3 at h
       exact blockQ_n (rest2 out2 h)
      ·refine aw_block (aw_loop (σ := Int × (List LN)) (fun s => ⟨97, [e6_9, e6_6 rv, sp 5 5, e6_7, sI 8 endv, sp 9 9, e6_4 ret77v, e6_8 ret77v, sI 79 s.1, e6_5], [e6_2 signs over, e6_3 signs endv, hA 5007 87 (.sl t3) s.2, e6_0 c0 c1 c2 c3 c4 c5, e6_1 c6]⟩) (fun s X => VCc34_l2 rv signs endv X1 ret77v s.1 s.2 X) (s0 := ((0 : Int), out)) (fun s X2 h => ?_) h)
       obtain ⟨v79, out2⟩ := s
       have h : VCc34_l2 rv signs endv X1 ret77v v79 out2 X2 := h
       unfold VCc34_l2 at h
       refine qS 1 ⟨97, [e6_9, e6_6 rv, sp 5 5, e6_7, sI 8 endv, sp 9 9, e6_4 ret77v, e6_8 ret77v, sI 79 v79, sB 80 (decide (v79 < (ret77v.length : Int))), e6_5], [e6_2 signs over, e6_3 signs endv, e6_10 out2, e6_0 c0 c1 c2 c3 c4 c5, e6_1 c6]⟩ (aw_seq (qI h (fun h => ?_) fun h => ?_))
       ·refine aw_skip (thenQ_n (aw_seq (aw_block (sr (qA 3 0 2 ⟨97, [e6_9, e6_6 rv, sp 5 5, e6_7, sI 8 endv, sp 9 9, s1 11 (.p (.sl t3) (aabx1 ret77v v79)), e6_4 ret77v, e6_8 ret77v, sI 79 v79, e6_5], [e6_2 signs over, e6_3 signs endv, e6_10 out2, e6_0 c0 c1 c2 c3 c4 c5, e6_1 c6]⟩ h fun h => nn (awd_begin [5007] (by kernel_rfl) ?_))))))
        obtain ⟨o1, h⟩ := h
        refine qDO 2 4 [0, 1, 2, 3, 4, 5, 7] [7, 5, 4, 3, 2, 1, 0] ⟨97, [e6_9, e6_6 rv, sp 5 5, e6_7, sI 8 endv, sp 9 9, e6_4 ret77v, e6_8 ret77v, sI 79 v79, e6_12, sA 88 [.pI (aabx0 rv), .pI signs, .pI endv], s1 90 (.p (.sl t3) (aabx1 ret77v v79)), e6_5], [e6_2 signs over, e6_3 signs endv, e6_10 out2, e6_0 c0 c1 c2 c3 c4 c5, e6_1 c6]⟩ o1 (awd_one (i := 6) (by kernel_rfl) ?_)
        refine dsq (ob := True) (st' := ⟨97, [e6_9, e6_6 rv, sp 5 5, e6_7, sI 8 endv, sp 9 9, e6_4 ret77v, e6_8 ret77v, sI 79 v79, e6_12, s1 89 (.own 89), s1 90 (.p (.sl t3) (aabx1 ret77v v79)), e6_5], [e6_2 signs over, e6_3 signs endv, hA 89 58 t3 [((aabx0 rv), (signs, endv))], e6_10 out2, e6_0 c0 c1 c2 c3 c4 c5, e6_1 c6]⟩) rfl (by kernel_rfl) trivial ?_
        refine awd_conv [.freeze 89] (st' := ⟨97, [e6_9, e6_6 rv, sp 5 5, e6_7, sI 8 endv, sp 9 9, e6_4 ret77v, e6_8 ret77v, sI 79 v79, e6_12, s1 89 (.p (.sl t3) [((aabx0 rv), (signs, endv))]), s1 90 (.p (.sl t3) (aabx1 ret77v v79)), e6_5], [e6_2 signs over, e6_3 signs endv, e6_10 out2, e6_0 c0 c1 c2 c3 c4 c5, e6_1 c6]⟩) (by kernel_rfl) rfl ?_
        refine awd_one (i := 8) (by kernel_rfl) ?_
        refine dsq (ob := True) (st' := ⟨97, [e6_9, e6_6 rv, sp 5 5, e6_7, sI 8 endv, sp 9 9, e6_4 ret77v, e6_8 ret77v, sI 79 v79, e6_12, s1 91 (.own 91), e6_5], [e6_2 signs over, e6_3 signs endv, hA 91 87 (.sl t3) [[((aabx0 rv), (signs, endv))], (aabx1 ret77v v79)], e6_10 out2, e6_0 c0 c1 c2 c3 c4 c5, e6_1 c6]⟩) rfl (by kernel_rfl) trivial ?_
        refine awd_conv [.freeze 91] (st' := ⟨97, [e6_9, e6_6 rv, sp 5 5, e6_7, sI 8 endv, sp 9 9, e6_4 ret77v, e6_8 ret77v, sI 79 v79, e6_12, s1 91 (.p (.sl (.sl t3)) [[((aabx0 rv), (signs, endv))], (aabx1 ret77v v79)]), e6_5], [e6_2 signs over, e6_3 signs endv, e6_10 out2, e6_0 c0 c1 c2 c3 c4 c5, e6_1 c6]⟩) (by kernel_rfl) rfl ?_
        refine awd_one (i := 9) (by kernel_rfl) ?_
        refine adop_callOk (e := 58) (t := t3) (l := [toV1 (.sl (.sl t3)) [[((aabx0 rv), (signs, endv))], (aabx1 ret77v v79)]]) (cl := []) false [.d (.sl (.sl t3))] [0, 1, 5, 7, 8, 9, 77, 78, 79, 83, 92, 97] [5, 9, 92, 5007, 70000, 70001] (fun (ret92v : LN) => (roomN (out2.length + [ret92v].length) ∧ (InR (v79 + (1 : Int)) ∧ X2 ((v79 + (1 : Int)), (out2 ++ [ret92v]))))) (fun ret92v => ⟨97, [e6_9, e6_6 rv, sp 5 5, e6_7, sI 8 endv, sp 9 9, e6_4 ret77v, e6_8 ret77v, sI 79 v79, e6_12, s1 92 (.own 92), e6_5], [e6_2 signs over, e6_3 signs endv, hA 92 58 t3 ret92v, e6_10 out2, e6_0 c0 c1 c2 c3 c4 c5, e6_1 c6]⟩) rfl rfl rfl (by kernel_rfl) rfl (by kernel_rfl) Try.call59 (by kernel_rfl) (fun e => by cases e) (fun ret92v => by kernel_rfl) (link59 [[((aabx0 rv), (signs, endv))], (aabx1 ret77v v79)] _ h) (fun ret92v h => (awd_conv [.freeze 92] (st' := ⟨97, [e6_9, e6_6 rv, sp 5 5, e6_7, sI 8 endv, sp 9 9, e6_4 ret77v, e6_8 ret77v, sI 79 v79, e6_12, s1 92 (.p (.sl t3) ret92v), e6_5], [e6_2 signs over, e6_3 signs endv, e6_10 out2, e6_0 c0 c1 c2 c3 c4 c5, e6_1 c6]⟩) (by kernel_rfl) rfl ?_))
        refine awd_one (i := 10) (by kernel_rfl) ?_
        refine dsq (ob := True) (st' := ⟨97, [e6_9, e6_6 rv, sp 5 5, e6_7, sI 8 endv, sp 9 9, e6_4 ret77v, e6_8 ret77v, sI 79 v79, e6_12, s1 93 (.own 93), e6_5], [e6_2 signs over, e6_3 signs endv, hA 93 87 (.sl t3) [ret92v], e6_10 out2, e6_0 c0 c1 c2 c3 c4 c5, e6_1 c6]⟩) rfl (by kernel_rfl) trivial ?_
        refine awd_one (i := 11) (by kernel_rfl) ?_
        obtain ⟨o1, h⟩ := h
        refine dsq (ob := roomN (out2.length + [ret92v].length)) (st' := ⟨97, [e6_9, e6_6 rv, sp 5 5, sI 8 endv, sp 9 9, e6_4 ret77v, e6_8 ret77v, sI 79 v79, s1 94 (.own 94), e6_5], [e6_2 signs over, e6_3 signs endv, hA 94 87 (.sl t3) (out2 ++ [ret92v]), e6_0 c0 c1 c2 c3 c4 c5, e6_1 c6]⟩) rfl (by kernel_rfl) o1 ?_
        refine qDT 1 [12] [12, 11, 10, 9, 8, 6, 7, 5, 4, 3, 2, 1, 0] ⟨97, [e6_9, e6_6 rv, sp 5 5, s1 7 (.own 94), sI 8 endv, sp 9 9, e6_4 ret77v, e6_8 ret77v, sI 79 v79, e6_5], [e6_2 signs over, e6_3 signs endv, hA 94 87 (.sl t3) (out2 ++ [ret92v]), e6_0 c0 c1 c2 c3 c4 c5, e6_1 c6]⟩ (awd_done (by kernel_rfl) ?_)
        exact blockQ_n (thenQ_n (aw_region (qA 2 0 1 ⟨97, [e6_9, e6_6 rv, sp 5 5, s1 7 (.own 94), sI 8 endv, sp 9 9, e6_4 ret77v, e6_8 ret77v, sI 79 (v79 + (1 : Int)), e6_5], [e6_2 signs over, e6_3 signs endv, hA 94 87 (.sl t3) (out2 ++ [ret92v]), e6_0 c0 c1 c2 c3 c4 c5, e6_1 c6]⟩ h fun h => qW [.ren 94 20094, .ren 20094 5007] ⟨97, [e6_9, e6_6 rv, sp 5 5, e6_7, sI 8 endv, sp 9 9, e6_4 ret77v, e6_8 ret77v, sI 79 (v79 + (1 : Int)), e6_5], [e6_2 signs over, e6_3 signs endv, hA 5007 87 (.sl t3) (out2 ++ [ret92v]), e6_0 c0 c1 c2 c3 c4 c5, e6_1 c6]⟩ (awl_nil (thenQ_n ⟨((v79 + (1 : Int)), (out2 ++ [ret92v])), rfl, h⟩)))))
       ·exact qC ⟨97, [e6_9, e6_6 rv, sp 5 5, e6_7, sI 8 endv, e6_5], [e6_2 signs over, e6_10 out2, e6_0 c0 c1 c2 c3 c4 c5, e6_1 c6]⟩ (aw_exit (thenQ_x (thenQ_x (blockQ_hit (rest3 out2 h)))))
   ·exact qC ⟨97, [e6_7, e6_5], [e6_11 out, e6_0 c0 c1 c2 c3 c4 c5, e6_1 c6]⟩ (aw_exit (thenQ_x (thenQ_x (blockQ_hit (rest1 out h)))))
def VCc34_it (c0 c1 c2 : Int) (c3 : LR) (c4 : LI) (c5 : Lqc) (c6 : Lqb) : Nat → LI → Int → Int → ((List LN) → Prop) → Prop
  | 0 => fun _ _ _ _ => False
  | n + 1 => fun rv signs over K => VCc34 c0 c1 c2 c3 c4 c5 c6 (VCc34_it c0 c1 c2 c3 c4 c5 c6 n) rv signs over K
def VCcr34 (c0 c1 c2 : Int) (c3 : LR) (c4 : LI) (c5 : Lqc) (c6 : Lqb) (rv : LI) (signs over : Int) (K : (List LN) → Prop) : Prop := ∃ n, VCc34_it c0 c1 c2 c3 c4 c5 c6 n rv signs over K
theorem linkci34 (c0 c1 c2 : Int) (c3 : LR) (c4 : LI) (c5 : Lqc) (c6 : Lqb) : ∀ (n : Nat) (rv : LI) (signs over : Int) (K : (List LN) → Prop), VCc34_it c0 c1 c2 c3 c4 c5 c6 n rv signs over K → LCalls Try.prog 34 [70000, 70001] [70000] [e6_0 c0 c1 c2 c3 c4 c5, e6_1 c6] [.c (.ptr 70000 0), .c (.pS rv), .agg [.pI signs, .pI over]] (fun av hp' => ∃ y : (List LN), av = .v (.c (.p (.sl (.sl t3)) y)) ∧ hp' = [e6_0 c0 c1 c2 c3 c4 c5, e6_1 c6] ∧ K y)
  | 0, _, _, _, _, h => False.elim h
  | n + 1, rv, signs, over, K, h => linkc34 c0 c1 c2 c3 c4 c5 c6 (VCc34_it c0 c1 c2 c3 c4 c5 c6 n) (linkci34 c0 c1 c2 c3 c4 c5 c6 n) rv signs over K h
theorem linkcr34 (c0 c1 c2 : Int) (c3 : LR) (c4 : LI) (c5 : Lqc) (c6 : Lqb) (rv : LI) (signs over : Int) (K : (List LN) → Prop) (h : VCcr34 c0 c1 c2 c3 c4 c5 c6 rv signs over K) : LCalls Try.prog 34 [70000, 70001] [70000] [e6_0 c0 c1 c2 c3 c4 c5, e6_1 c6] [.c (.ptr 70000 0), .c (.pS rv), .agg [.pI signs, .pI over]] (fun av hp' => ∃ y : (List LN), av = .v (.c (.p (.sl (.sl t3)) y)) ∧ hp' = [e6_0 c0 c1 c2 c3 c4 c5, e6_1 c6] ∧ K y) := by
  obtain ⟨n, h⟩ := h
  exact linkci34 c0 c1 c2 c3 c4 c5 c6 n rv signs over K h
abbrev e6a0 (c0 c1 c2 : Int) (c3 : LR) (c4 : LI) (c5 : Lqc) := hB 70000 [.pI c0, .pI c1, .pI c2, .p (.sl tR) c3, .pS c4, .p (.mp (.pr tI tI) (.int .u32)) c5, .own 70001]
abbrev e6a1 (c6 : Lqb) : Nat × Path × Con := (70001, [], .dict t3 (.sl (.pr tI (.sl t3))) c6)
abbrev e6a2 (c3 : LR) := s1 29 (.p (.sl tR) c3)
abbrev e6a3 (rv k rv2 : Int) := hB 3 [.pI rv, .pI k, .pI rv2]
abbrev e6a4 (l : Lqg) := s1 72 (.p (.sl (.pr tI (.sl t3))) l)
abbrev e6a5 (l : Lqg) (v74 : Int) := sI 80 (((l.getD (v74).toNat zqc).2).length : Int)
abbrev e6a6 := sp 90 70000
abbrev e6a7 (l : Lqg) (v74 : Int) := s1 79 (.p (.sl t3) ((l.getD (v74).toNat zqc).2))
abbrev e6a8 (l : Lqg) (v74 v81 : Int) := sA 86 [.pI ((((l.getD (v74).toNat zqc).2).getD (v81).toNat z3).1), .pI ((((l.getD (v74).toNat zqc).2).getD (v81).toNat z3).2.1), .pI ((((l.getD (v74).toNat zqc).2).getD (v81).toNat z3).2.2)]
abbrev e6a9 (c3 : LR) := sI 30 (c3.length : Int)
abbrev e6a10 := sp 0 70000
abbrev e6a11 (l : Lqg) := hA 5006 89 (.pr tI (.sl t3)) l
abbrev e6a12 (l700012 : Lqb) : Nat × Path × Con := (70001, [], .dict t3 (.sl (.pr tI (.sl t3))) l700012)
abbrev e6a13 := s1 6 (.own 5006)
abbrev e6a14 (l : Lqg) := sI 73 (l.length : Int)
abbrev e6a15 (ret52v : (List LN)) := s1 52 (.p (.sl (.sl t3)) ret52v)
abbrev e6a16 (l70001 : Lqb) : Nat × Path × Con := (70001, [], .dict t3 (.sl (.pr tI (.sl t3))) l70001)
abbrev e6a17 (ret87v : Lqb) : Nat × Path × Con := (70001, [], .dict t3 (.sl (.pr tI (.sl t3))) ret87v)
abbrev e6a18 (c3 : LR) (v31 : Int) := hB 8 [.pI ((c3.getD (v31).toNat zqb).1), .pS ((c3.getD (v31).toNat zqb).2)]
abbrev e6a19 (ret52v : (List LN)) := sI 53 (ret52v.length : Int)
abbrev e6a20 (l2 : Lqg) := hA 5006 89 (.pr tI (.sl t3)) l2
-- (*coppicer/thicket.grower).grow
def VCc16_k2 (K : Lqb → Prop) (l70001 : Lqb) : Prop :=
  K l70001
def VCc16_k3 (v74 : Int) (X1 : Int × Lqb → Prop) (l700012 : Lqb) : Prop :=
  (InR (v74 + (1 : Int)) ∧ X1 ((v74 + (1 : Int)), l700012))
def VCc16_l2 (R : Int → Int → Int → Lqb → (Lqb → Prop) → Prop) (l : Lqg) (v74 : Int) (X1 : Int × Lqb → Prop) (v81 : Int) (l700012 : Lqb) (X2 : Int × Lqb → Prop) : Prop :=
  (((decide (v81 < (((l.getD (v74).toNat ((0 : Int), ([] : LN))).2).length : Int))) = true → (inIdx v81 ((l.getD (v74).toNat ((0 : Int), ([] : LN))).2).length ∧ R ((((l.getD (v74).toNat ((0 : Int), ([] : LN))).2).getD (v81).toNat z3).1) ((((l.getD (v74).toNat ((0 : Int), ([] : LN))).2).getD (v81).toNat z3).2.1) ((((l.getD (v74).toNat ((0 : Int), ([] : LN))).2).getD (v81).toNat z3).2.2) l700012 (fun (ret87v : Lqb) => (InR (v81 + (1 : Int)) ∧ X2 ((v81 + (1 : Int)), ret87v))))) ∧ ((decide (v81 < (((l.getD (v74).toNat ((0 : Int), ([] : LN))).2).length : Int))) = false → VCc16_k3 v74 X1 l700012))
def VCc16_l1 (R : Int → Int → Int → Lqb → (Lqb → Prop) → Prop) (K : Lqb → Prop) (l : Lqg) (v74 : Int) (l70001 : Lqb) (X1 : Int × Lqb → Prop) : Prop :=
  (((decide (v74 < (l.length : Int))) = true → (inIdx v74 l.length ∧ Loop (σ := Int × Lqb) (fun s X => VCc16_l2 R l v74 X1 s.1 s.2 X) ((0 : Int), l70001))) ∧ ((decide (v74 < (l.length : Int))) = false → VCc16_k2 K l70001))
def VCc16_k1 (R : Int → Int → Int → Lqb → (Lqb → Prop) → Prop) (rv k rv2 : Int) (c6 : Lqb) (K : Lqb → Prop) (l : Lqg) : Prop :=
  Loop (σ := Int × Lqb) (fun s X => VCc16_l1 R K l s.1 s.2 X) ((0 : Int), (mset c6 (rv, (k, rv2)) l))
def VCc16_k4 (v31 : Int) (X3 : Int × Lqg → Prop) (l2 : Lqg) : Prop :=
  (InR (v31 + (1 : Int)) ∧ X3 ((v31 + (1 : Int)), l2))
def VCc16_k5 (v31 : Int) (X3 : Int × Lqg → Prop) (l2 : Lqg) : Prop :=
  VCc16_k4 v31 X3 l2
def VCc16_l4 (v31 : Int) (X3 : Int × Lqg → Prop) (ret52v : (List LN)) (v54 : Int) (l2 : Lqg) (X4 : Int × Lqg → Prop) : Prop :=
  (((decide (v54 < (ret52v.length : Int))) = true → (inIdx v54 ret52v.length ∧ (roomN (l2.length + [(v31, (ret52v.getD (v54).toNat ([] : LN)))].length) ∧ (InR (v54 + (1 : Int)) ∧ X4 ((v54 + (1 : Int)), (l2 ++ [(v31, (ret52v.getD (v54).toNat ([] : LN)))])))))) ∧ ((decide (v54 < (ret52v.length : Int))) = false → VCc16_k5 v31 X3 l2))
def VCc16_l3 (c0 c1 c2 : Int) (c3 : LR) (c4 : LI) (c5 : Lqc) (R : Int → Int → Int → Lqb → (Lqb → Prop) → Prop) (rv k rv2 : Int) (c6 : Lqb) (K : Lqb → Prop) (v31 : Int) (l : Lqg) (X3 : Int × Lqg → Prop) : Prop :=
  (((decide (v31 < (c3.length : Int))) = true → (inIdx v31 c3.length ∧ (InR (c0 + (c3.getD (v31).toNat ((0 : Int), ([] : LI))).1) ∧ (((decide (rv = (c0 + (c3.getD (v31).toNat ((0 : Int), ([] : LI))).1))) = true → VCcr34 c0 c1 c2 c3 c4 c5 c6 ((c3.getD (v31).toNat ((0 : Int), ([] : LI))).2) k rv2 (fun (ret52v : (List LN)) => Loop (σ := Int × Lqg) (fun s X => VCc16_l4 v31 X3 ret52v s.1 s.2 X) ((0 : Int), l))) ∧ ((decide (rv = (c0 + (c3.getD (v31).toNat ((0 : Int), ([] : LI))).1))) = false → VCc16_k4 v31 X3 l))))) ∧ ((decide (v31 < (c3.length : Int))) = false → VCc16_k1 R rv k rv2 c6 K l))
def VCc16 (c0 c1 c2 : Int) (c3 : LR) (c4 : LI) (c5 : Lqc) (R : Int → Int → Int → Lqb → (Lqb → Prop) → Prop) (rv k rv2 : Int) (c6 : Lqb) (K : Lqb → Prop) : Prop :=
  (((mget c6 (rv, (k, rv2))).isSome = true → K c6) ∧ ((mget c6 (rv, (k, rv2))).isSome = false → Loop (σ := Int × Lqg) (fun s X => VCc16_l3 c0 c1 c2 c3 c4 c5 R rv k rv2 c6 K s.1 s.2 X) ((0 : Int), ([] : List (Int × LN)))))
abbrev adbx0 := List (Lqf × Lqg)
abbrev adbx1 (l : Lqg) (v74 v81 : Int) := ((l.getD (v74).toNat zqc).2).getD (v81).toNat z3
abbrev adbx2 (c3 : LR) (v31 : Int) := c3.getD (v31).toNat zqb
theorem linkc16 (c0 c1 c2 : Int) (c3 : LR) (c4 : LI) (c5 : Lqc) (R : Int → Int → Int → adbx0 → (adbx0 → Prop) → Prop) (hR : ∀ (rv k rv2 : Int) (c6 : adbx0) (K : adbx0 → Prop), R rv k rv2 c6 K → LCalls Try.prog 16 [70000, 70001] [70000] [e6a0 c0 c1 c2 c3 c4 c5, e6a1 c6] [.c (.ptr 70000 0), .agg [.pI rv, .pI k, .pI rv2]] (fun av hp' => ∃ y : adbx0, av = .tup [] ∧ hp' = [e6a0 c0 c1 c2 c3 c4 c5, (70001, [], .dict t3 (.sl (.pr tI (.sl t3))) y)] ∧ K y)) (rv k rv2 : Int) (c6 : adbx0) (K : adbx0 → Prop) (h : VCc16 c0 c1 c2 c3 c4 c5 R rv k rv2 c6 K) : LCalls Try.prog 16 [70000, 70001] [70000] [e6a0 c0 c1 c2 c3 c4 c5, e6a1 c6] [.c (.ptr 70000 0), .agg [.pI rv, .pI k, .pI rv2]] (fun av hp' => ∃ y : adbx0, av = .tup [] ∧ hp' = [e6a0 c0 c1 c2 c3 c4 c5, (70001, [], .dict t3 (.sl (.pr tI (.sl t3))) y)] ∧ K y) := by
 refine lcalls_of_aw [70000, 70001] [70000] [] Try.func16 rfl rfl (by kernel_rfl) (by kernel_rfl) (by kernel_rfl) ?_
 refine qV [] ⟨90, [e6a10, sA 1 [.pI rv, .pI k, .pI rv2], e6a6], [e6a0 c0 c1 c2 c3 c4 c5, e6a1 c6]⟩ ?_
 unfold VCc16 at h
 refine qS 1 ⟨90, [e6a10, sp 3 3, e6a6], [e6a3 rv k rv2, e6a0 c0 c1 c2 c3 c4 c5, e6a1 c6]⟩ (aw_seq (aw_seq (awd_begin [] (by kernel_rfl) ?_)))
 refine qDT 11 [0, 1, 2, 3, 4, 5, 6, 7, 8, 9, 10] [10, 9, 8, 7, 6, 5, 4, 3, 2, 1, 0] ⟨90, [e6a10, sp 3 3, sB 5 ((mget c6 (rv, (k, rv2))).isSome), e6a6], [e6a3 rv k rv2, e6a0 c0 c1 c2 c3 c4 c5, e6a1 c6]⟩ (awd_done (by kernel_rfl) ?_)
 refine thenQ_n (qS 1 ⟨90, [e6a10, sp 3 3, sB 24 ((mget c6 (rv, (k, rv2))).isSome), e6a6], [e6a3 rv k rv2, e6a0 c0 c1 c2 c3 c4 c5, e6a1 c6]⟩ (qI h (fun h => ?_) fun h => ?_))
 ·exact qC ⟨90, [e6a6], [e6a0 c0 c1 c2 c3 c4 c5, e6a1 c6]⟩ (aw_ret (thenQ_r (lret_r (σ := adbx0) (A := fun y => .tup []) (H := fun y => [e6a0 c0 c1 c2 c3 c4 c5, (70001, [], .dict t3 (.sl (.pr tI (.sl t3))) y)]) (ob := True) c6 (by kernel_rfl) trivial rfl (by kernel_rfl) (by kernel_rfl) (by kernel_rfl) h)))
 ·refine aw_skip (thenQ_n (qS 1 ⟨90, [e6a10, sp 3 3, s1 6 (.nils), e6a6], [e6a3 rv k rv2, e6a0 c0 c1 c2 c3 c4 c5, e6a1 c6]⟩ (aw_seq (qS 7 ⟨90, [e6a10, sp 3 3, s1 6 (.nils), e6a2 c3, e6a9 c3, sI 31 (0 : Int), e6a6], [e6a3 rv k rv2, e6a0 c0 c1 c2 c3 c4 c5, e6a1 c6]⟩ (withJoin (σ := Lqg) (fun s => ⟨90, [e6a10, sp 3 3, e6a13, e6a6], [e6a3 rv k rv2, hA 5006 89 (.pr tI (.sl t3)) s, e6a0 c0 c1 c2 c3 c4 c5, e6a1 c6]⟩) (fun s => VCc16_k1 R rv k rv2 c6 K s) (fun l h => ?_) (fun rest3 => ?_))))))
  ·have h : VCc16_k1 R rv k rv2 c6 K l := h
   unfold VCc16_k1 at h
   refine thenQ_n (aw_seq (awd_begin [70001] (by kernel_rfl) ?_))
   refine qDT 6 [0, 1, 2, 3, 4, 5] [5, 4, 3, 2, 1, 0] ⟨90, [e6a10, e6a13, s1 69 (.own 70001), sA 70 [.pI rv, .pI k, .pI rv2], s1 71 (.own 5006), e6a6], [e6a11 l, e6a0 c0 c1 c2 c3 c4 c5, e6a1 c6]⟩ (awd_conv [.freeze 5006] (st' := ⟨90, [e6a10, s1 6 (.p (.sl (.pr tI (.sl t3))) l), s1 69 (.own 70001), sA 70 [.pI rv, .pI k, .pI rv2], s1 71 (.p (.sl (.pr tI (.sl t3))) l), e6a6], [e6a0 c0 c1 c2 c3 c4 c5, e6a1 c6]⟩) (by kernel_rfl) rfl ?_)
   refine awd_one (i := 6) (by kernel_rfl) ?_
   refine dsq (ob := True) (st' := ⟨90, [e6a10, s1 6 (.p (.sl (.pr tI (.sl t3))) l), e6a6], [e6a0 c0 c1 c2 c3 c4 c5, (70001, [], .dict t3 (.sl (.pr tI (.sl t3))) (mset c6 (rv, (k, rv2)) l))]⟩) rfl (by kernel_rfl) trivial ?_
   refine awd_done (by kernel_rfl) ?_
   refine thenQ_n (qS 3 ⟨90, [e6a10, e6a4 l, e6a14 l, sI 74 (0 : Int), e6a6], [e6a0 c0 c1 c2 c3 c4 c5, (70001, [], .dict t3 (.sl (.pr tI (.sl t3))) (mset c6 (rv, (k, rv2)) l))]⟩ (withJoin (σ := adbx0) (fun s => ⟨90, [e6a6], [e6a0 c0 c1 c2 c3 c4 c5, (70001, [], .dict t3 (.sl (.pr tI (.sl t3))) s)]⟩) (fun s => VCc16_k2 K s) (fun l70001 h => ?_) (fun rest1 => ?_)))
   ·have h : VCc16_k2 K l70001 := h
    unfold VCc16_k2 at h
    exact lret_n (σ := adbx0) (A := fun y => .tup []) (H := fun y => [e6a0 c0 c1 c2 c3 c4 c5, (70001, [], .dict t3 (.sl (.pr tI (.sl t3))) y)]) (ob := True) l70001 (by kernel_rfl) trivial rfl (by kernel_rfl) (by kernel_rfl) (by kernel_rfl) h
   ·refine aw_block (aw_loop (σ := Int × adbx0) (fun s => ⟨90, [e6a10, e6a4 l, e6a14 l, sI 74 s.1, e6a6], [e6a0 c0 c1 c2 c3 c4 c5, (70001, [], .dict t3 (.sl (.pr tI (.sl t3))) s.2)]⟩) (fun s X => VCc16_l1 R K l s.1 s.2 X) (s0 := ((0 : Int), (mset c6 (rv, (k, rv2)) l))) (fun s X1 h => ?_) h)
    obtain ⟨v74, l70001⟩ := s
    have h : VCc16_l1 R K l v74 l70001 X1 := h
    unfold VCc16_l1 at h
    refine qS 1 ⟨90, [e6a10, e6a4 l, e6a14 l, sI 74 v74, sB 75 (decide (v74 < (l.length : Int))), e6a6], [e6a0 c0 c1 c2 c3 c4 c5, e6a16 l70001]⟩ (aw_seq (qI h (fun h => ?_) fun h => ?_))
    ·refine aw_skip (thenQ_n (aw_seq (aw_block (sr (qA 4 0 3 ⟨90, [e6a10, sp 12 12, e6a4 l, e6a14 l, sI 74 v74, e6a6], [hB 12 [.pI ((l.getD (v74).toNat zqc).1), .p (.sl t3) ((l.getD (v74).toNat zqc).2)], e6a0 c0 c1 c2 c3 c4 c5, e6a16 l70001]⟩ h fun h => nsr (qT 4 ⟨90, [e6a10, e6a4 l, e6a14 l, sI 74 v74, e6a7 l v74, e6a5 l v74, sI 81 (0 : Int), e6a6], [e6a0 c0 c1 c2 c3 c4 c5, e6a16 l70001]⟩ (nn (withJoin (σ := adbx0) (fun s => ⟨90, [e6a10, e6a4 l, e6a14 l, sI 74 v74, e6a6], [e6a0 c0 c1 c2 c3 c4 c5, (70001, [], .dict t3 (.sl (.pr tI (.sl t3))) s)]⟩) (fun s => VCc16_k3 v74 X1 s) (fun l700012 h => ?_) (fun rest2 => ?_)))))))))
     ·have h : VCc16_k3 v74 X1 l700012 := h
      unfold VCc16_k3 at h
      exact blockQ_n (thenQ_n (aw_region (qA 2 0 1 ⟨90, [e6a10, e6a4 l, e6a14 l, sI 74 (v74 + (1 : Int)), e6a6], [e6a0 c0 c1 c2 c3 c4 c5, e6a12 l700012]⟩ h fun h => awl_nil (thenQ_n ⟨((v74 + (1 : Int)), l700012), rfl, h⟩))))
     ·refine aw_block (aw_loop (σ := Int × adbx0) (fun s => ⟨90, [e6a10, e6a4 l, e6a14 l, sI 74 v74, e6a7 l v74, e6a5 l v74, sI 81 s.1, e6a6], [e6a0 c0 c1 c2 c3 c4 c5, (70001, [], .dict t3 (.sl (.pr tI (.sl t3))) s.2)]⟩) (fun s X => VCc16_l2 R l v74 X1 s.1 s.2 X) (s0 := ((0 : Int), l70001)) (fun s X2 h => ?_) h)
      obtain ⟨v81, l700012⟩ := s
      have h : VCc16_l2 R l v74 X1 v81 l700012 X2 := h
      unfold VCc16_l2 at h
      refine qS 1 ⟨90, [e6a10, e6a4 l, e6a14 l, sI 74 v74, e6a7 l v74, e6a5 l v74, sI 81 v81, sB 82 (decide (v81 < (((l.getD (v74).toNat zqc).2).length : Int))), e6a6], [e6a0 c0 c1 c2 c3 c4 c5, e6a12 l700012]⟩ (aw_seq (qI h (fun h => ?_) fun h => ?_))
      ·refine aw_skip (thenQ_n (aw_seq (aw_block (sr (qA 4 0 3 ⟨90, [e6a10, sp 14 14, e6a4 l, e6a14 l, sI 74 v74, e6a7 l v74, e6a5 l v74, sI 81 v81, e6a6], [hB 14 [.pI ((adbx1 l v74 v81).1), .pI ((adbx1 l v74 v81).2.1), .pI ((adbx1 l v74 v81).2.2)], e6a0 c0 c1 c2 c3 c4 c5, e6a12 l700012]⟩ h fun h => nn (aw_region (qT 2 ⟨90, [e6a10, e6a4 l, e6a14 l, sI 74 v74, e6a7 l v74, e6a5 l v74, sI 81 v81, sp 85 70000, e6a8 l v74 v81, e6a6], [e6a0 c0 c1 c2 c3 c4 c5, e6a12 l700012]⟩ (awl_lcall (σ := adbx0) [70000, 70001] [70000] [.c (.ptr 70000 0), .agg [.pI ((adbx1 l v74 v81).1), .pI ((adbx1 l v74 v81).2.1), .pI ((adbx1 l v74 v81).2.2)]] [] (fun ret87v => .tup []) (fun ret87v => [e6a0 c0 c1 c2 c3 c4 c5, e6a17 ret87v]) (_) [e6a0 c0 c1 c2 c3 c4 c5, e6a12 l700012] (fun ret87v => ⟨90, [(87, [], .tup []), e6a10, e6a4 l, e6a14 l, sI 74 v74, e6a7 l v74, e6a5 l v74, sI 81 v81, sp 85 70000, e6a8 l v74 v81, e6a6], [e6a0 c0 c1 c2 c3 c4 c5, e6a17 ret87v]⟩) rfl rfl (by kernel_rfl) rfl (by kernel_rfl) Try.call16 (by kernel_rfl) (by kernel_rfl) (by kernel_rfl) (fun _ _ => rfl) (fun _ => by kernel_rfl) (hR ((adbx1 l v74 v81).1) ((adbx1 l v74 v81).2.1) ((adbx1 l v74 v81).2.2) l700012 _ h) (fun ret87v h => ?_)))))))))
       exact qL ⟨90, [e6a10, e6a4 l, e6a14 l, sI 74 v74, e6a7 l v74, e6a5 l v74, sI 81 v81, e6a6], [e6a0 c0 c1 c2 c3 c4 c5, e6a17 ret87v]⟩ (awl_nil (blockQ_n (thenQ_n (aw_region (qA 2 0 1 ⟨90, [e6a10, e6a4 l, e6a14 l, sI 74 v74, e6a7 l v74, e6a5 l v74, sI 81 (v81 + (1 : Int)), e6a6], [e6a0 c0 c1 c2 c3 c4 c5, e6a17 ret87v]⟩ h fun h => awl_nil (thenQ_n ⟨((v81 + (1 : Int)), ret87v), rfl, h⟩))))))
      ·exact qC ⟨90, [e6a10, e6a4 l, e6a14 l, sI 74 v74, e6a6], [e6a0 c0 c1 c2 c3 c4 c5, e6a12 l700012]⟩ (aw_exit (thenQ_x (thenQ_x (blockQ_hit (rest2 l700012 h)))))
    ·exact qC ⟨90, [e6a6], [e6a0 c0 c1 c2 c3 c4 c5, e6a16 l70001]⟩ (aw_exit (thenQ_x (thenQ_x (blockQ_hit (rest1 l70001 h)))))
  ·refine aw_block (qV [.nilOwn 6 5006 89 (.pr tI (.sl t3)), .prune [0, 3, 6, 29, 30, 31, 90] [3, 5006, 70000, 70001]] ⟨90, [e6a10, sp 3 3, e6a13, e6a2 c3, e6a9 c3, sI 31 (0 : Int), e6a6], [e6a3 rv k rv2, hA 5006 89 (.pr tI (.sl t3)) ([] : List (Int × LN)), e6a0 c0 c1 c2 c3 c4 c5, e6a1 c6]⟩ (aw_loop (σ := Int × Lqg) (fun s => ⟨90, [e6a10, sp 3 3, e6a13, e6a2 c3, e6a9 c3, sI 31 s.1, e6a6], [e6a3 rv k rv2, hA 5006 89 (.pr tI (.sl t3)) s.2, e6a0 c0 c1 c2 c3 c4 c5, e6a1 c6]⟩) (fun s X => VCc16_l3 c0 c1 c2 c3 c4 c5 R rv k rv2 c6 K s.1 s.2 X) (s0 := ((0 : Int), ([] : List (Int × LN)))) (fun s X3 h => ?_) h))
   obtain ⟨v31, l⟩ := s
   have h : VCc16_l3 c0 c1 c2 c3 c4 c5 R rv k rv2 c6 K v31 l X3 := h
   unfold VCc16_l3 at h
   refine qS 1 ⟨90, [e6a10, sp 3 3, e6a13, e6a2 c3, e6a9 c3, sI 31 v31, sB 32 (decide (v31 < (c3.length : Int))), e6a6], [e6a3 rv k rv2, e6a11 l, e6a0 c0 c1 c2 c3 c4 c5, e6a1 c6]⟩ (aw_seq (qI h (fun h => ?_) fun h => ?_))
   ·refine aw_skip (thenQ_n (aw_seq (aw_block (sr (qA 6 1 4 ⟨90, [e6a10, sp 3 3, e6a13, sI 7 v31, sp 8 8, e6a2 c3, e6a9 c3, sI 31 v31, e6a6], [e6a3 rv k rv2, e6a18 c3 v31, e6a11 l, e6a0 c0 c1 c2 c3 c4 c5, e6a1 c6]⟩ h fun h => nn (aw_seq (awd_begin [] (by kernel_rfl) ?_)))))))
    obtain ⟨o1, h⟩ := h
    refine qDO 9 1 [0, 1, 2, 3, 4, 5, 6, 7, 8, 9, 10] [10, 9, 8, 7, 6, 5, 4, 3, 2, 1, 0] ⟨90, [e6a10, sp 3 3, e6a13, sI 7 v31, sp 8 8, e6a2 c3, e6a9 c3, sI 31 v31, sB 46 (decide (rv = (c0 + (adbx2 c3 v31).1))), e6a6], [e6a3 rv k rv2, e6a18 c3 v31, e6a11 l, e6a0 c0 c1 c2 c3 c4 c5, e6a1 c6]⟩ o1 (awd_done (by kernel_rfl) ?_)
    refine thenQ_n (withJoin (σ := Lqg) (fun s => ⟨90, [e6a10, sp 3 3, e6a13, e6a2 c3, e6a9 c3, sI 31 v31, e6a6], [e6a3 rv k rv2, hA 5006 89 (.pr tI (.sl t3)) s, e6a0 c0 c1 c2 c3 c4 c5, e6a1 c6]⟩) (fun s => VCc16_k4 v31 X3 s) (fun l2 h => ?_) (fun rest4 => ?_))
    ·have h : VCc16_k4 v31 X3 l2 := h
     unfold VCc16_k4 at h
     exact blockQ_n (thenQ_n (aw_region (qA 2 0 1 ⟨90, [e6a10, sp 3 3, e6a13, e6a2 c3, e6a9 c3, sI 31 (v31 + (1 : Int)), e6a6], [e6a3 rv k rv2, e6a20 l2, e6a0 c0 c1 c2 c3 c4 c5, e6a1 c6]⟩ h fun h => awl_nil (thenQ_n ⟨((v31 + (1 : Int)), l2), rfl, h⟩))))
    ·refine qI h (fun h => ?_) fun h => ?_
     ·refine sr (qT 5 ⟨90, [e6a10, sp 3 3, e6a13, sI 7 v31, e6a2 c3, e6a9 c3, sI 31 v31, sp 47 70000, s1 49 (.pS ((adbx2 c3 v31).2)), sA 51 [.pI k, .pI rv2], e6a6], [e6a3 rv k rv2, e6a11 l, e6a0 c0 c1 c2 c3 c4 c5, e6a1 c6]⟩ (awl_lcall (σ := (List LN)) [70000, 70001] [70000] [.c (.ptr 70000 0), .c (.pS ((adbx2 c3 v31).2)), .agg [.pI k, .pI rv2]] [] (fun ret52v => .v (.c (.p (.sl (.sl t3)) ret52v))) (fun ret52v => [e6a0 c0 c1 c2 c3 c4 c5, e6a1 c6]) (_) [e6a0 c0 c1 c2 c3 c4 c5, e6a1 c6] (fun ret52v => ⟨90, [e6a15 ret52v, e6a10, sp 3 3, e6a13, sI 7 v31, e6a2 c3, e6a9 c3, sI 31 v31, sp 47 70000, s1 49 (.pS ((adbx2 c3 v31).2)), sA 51 [.pI k, .pI rv2], e6a6], [e6a0 c0 c1 c2 c3 c4 c5, e6a1 c6, e6a3 rv k rv2, e6a11 l]⟩) rfl rfl (by kernel_rfl) rfl (by kernel_rfl) Try.call34 (by kernel_rfl) (by kernel_rfl) (by kernel_rfl) (fun _ _ => rfl) (fun _ => by kernel_rfl) (linkcr34 c0 c1 c2 c3 c4 c5 c6 ((adbx2 c3 v31).2) k rv2 _ h) (fun ret52v h => ?_)))
      refine qL ⟨90, [e6a10, sp 3 3, e6a13, sI 7 v31, e6a2 c3, e6a9 c3, sI 31 v31, e6a15 ret52v, e6a6], [e6a3 rv k rv2, e6a11 l, e6a0 c0 c1 c2 c3 c4 c5, e6a1 c6]⟩ (qT 2 ⟨90, [e6a10, sp 3 3, e6a13, sI 7 v31, e6a2 c3, e6a9 c3, sI 31 v31, e6a15 ret52v, e6a19 ret52v, sI 54 (0 : Int), e6a6], [e6a3 rv k rv2, e6a11 l, e6a0 c0 c1 c2 c3 c4 c5, e6a1 c6]⟩ (nn (withJoin (σ := Lqg) (fun s => ⟨90, [e6a10, sp 3 3, e6a13, e6a2 c3, e6a9 c3, sI 31 v31, e6a6], [e6a3 rv k rv2, hA 5006 89 (.pr tI (.sl t3)) s, e6a0 c0 c1 c2 c3 c4 c5, e6a1 c6]⟩) (fun s => VCc16_k5 v31 X3 s) (fun l2 h => ?_) (fun rest5 => ?_))))
      ·have h : VCc16_k5 v31 X3 l2 := h
       unfold VCc16_k5 at h
       exact rest4 l2 h
      ·refine aw_block (aw_loop (σ := Int × Lqg) (fun s => ⟨90, [e6a10, sp 3 3, e6a13, sI 7 v31, e6a2 c3, e6a9 c3, sI 31 v31, e6a15 ret52v, e6a19 ret52v, sI 54 s.1, e6a6], [e6a3 rv k rv2, hA 5006 89 (.pr tI (.sl t3)) s.2, e6a0 c0 c1 c2 c3 c4 c5, e6a1 c6]⟩) (fun s X => VCc16_l4 v31 X3 ret52v s.1 s.2 X) (s0 := ((0 : Int), l)) (fun s X4 h => ?_) h)
       obtain ⟨v54, l2⟩ := s
       have h : VCc16_l4 v31 X3 ret52v v54 l2 X4 := h
       unfold VCc16_l4 at h
       refine qS 1 ⟨90, [e6a10, sp 3 3, e6a13, sI 7 v31, e6a2 c3, e6a9 c3, sI 31 v31, e6a15 ret52v, e6a19 ret52v, sI 54 v54, sB 55 (decide (v54 < (ret52v.length : Int))), e6a6], [e6a3 rv k rv2, e6a20 l2, e6a0 c0 c1 c2 c3 c4 c5, e6a1 c6]⟩ (aw_seq (qI h (fun h => ?_) fun h => ?_))
       ·exact aw_skip (thenQ_n (aw_seq (aw_block (sr (qA 3 0 2 ⟨90, [e6a10, sp 3 3, e6a13, sI 7 v31, s1 10 (.p (.sl t3) (ret52v.getD (v54).toNat ([] : LN))), e6a2 c3, e6a9 c3, sI 31 v31, e6a15 ret52v, e6a19 ret52v, sI 54 v54, e6a6], [e6a3 rv k rv2, e6a20 l2, e6a0 c0 c1 c2 c3 c4 c5, e6a1 c6]⟩ h fun h => nn (aw_region (qA 7 5 1 ⟨90, [e6a10, sp 3 3, s1 6 (.own 63), sI 7 v31, e6a2 c3, e6a9 c3, sI 31 v31, e6a15 ret52v, e6a19 ret52v, sI 54 v54, e6a6], [e6a3 rv k rv2, hA 63 89 (.pr tI (.sl t3)) (l2 ++ [(v31, (ret52v.getD (v54).toNat ([] : LN)))]), e6a0 c0 c1 c2 c3 c4 c5, e6a1 c6]⟩ h fun h => awl_nil (blockQ_n (thenQ_n (aw_region (qA 2 0 1 ⟨90, [e6a10, sp 3 3, s1 6 (.own 63), sI 7 v31, e6a2 c3, e6a9 c3, sI 31 v31, e6a15 ret52v, e6a19 ret52v, sI 54 (v54 + (1 : Int)), e6a6], [e6a3 rv k rv2, hA 63 89 (.pr tI (.sl t3)) (l2 ++ [(v31, (ret52v.getD (v54).toNat ([] : LN)))]), e6a0 c0 c1 c2 c3 c4 c5, e6a1 c6]⟩ h fun h => qW [.ren 63 20063, .ren 20063 5006] ⟨90, [e6a10, sp 3 3, e6a13, sI 7 v31, e6a2 c3, e6a9 c3, sI 31 v31, e6a15 ret52v, e6a19 ret52v, sI 54 (v54 + (1 : Int)), e6a6], [e6a3 rv k rv2, hA 5006 89 (.pr tI (.sl t3)) (l2 ++ [(v31, (ret52v.getD (v54).toNat ([] : LN)))]), e6a0 c0 c1 c2 c3 c4 c5, e6a1 c6]⟩ (awl_nil (thenQ_n ⟨((v54 + (1 : Int)), (l2 ++ [(v31, (ret52v.getD (v54).toNat ([] : LN)))])), rfl, h⟩)))))))))))))
       ·exact qC ⟨90, [e6a10, sp 3 3, e6a13, e6a2 c3, e6a9 c3, sI 31 v31, e6a6], [e6a3 rv k rv2, e6a20 l2, e6a0 c0 c1 c2 c3 c4 c5, e6a1 c6]⟩ (aw_exit (thenQ_x (thenQ_x (blockQ_hit (rest5 l2 h)))))
     ·exact qC ⟨90, [e6a10, sp 3 3, e6a13, e6a2 c3, e6a9 c3, sI 31 v31, e6a6], [e6a3 rv k rv2, e6a11 l, e6a0 c0 c1 c2 c3 c4 c5, e6a1 c6]⟩ (aw_skip (rest4 l h))
   ·exact qC ⟨90, [e6a10, sp 3 3, e6a13, e6a6], [e6a3 rv k rv2, e6a11 l, e6a0 c0 c1 c2 c3 c4 c5, e6a1 c6]⟩ (aw_exit (thenQ_x (thenQ_x (blockQ_hit (rest3 l h)))))
def VCc16_it (c0 c1 c2 : Int) (c3 : LR) (c4 : LI) (c5 : Lqc) : Nat → Int → Int → Int → Lqb → (Lqb → Prop) → Prop
  | 0 => fun _ _ _ _ _ => False
  | n + 1 => fun rv k rv2 c6 K => VCc16 c0 c1 c2 c3 c4 c5 (VCc16_it c0 c1 c2 c3 c4 c5 n) rv k rv2 c6 K
def VCcr16 (c0 c1 c2 : Int) (c3 : LR) (c4 : LI) (c5 : Lqc) (rv k rv2 : Int) (c6 : Lqb) (K : Lqb → Prop) : Prop := ∃ n, VCc16_it c0 c1 c2 c3 c4 c5 n rv k rv2 c6 K
theorem linkci16 (c0 c1 c2 : Int) (c3 : LR) (c4 : LI) (c5 : Lqc) : ∀ (n : Nat) (rv k rv2 : Int) (c6 : Lqb) (K : Lqb → Prop), VCc16_it c0 c1 c2 c3 c4 c5 n rv k rv2 c6 K → LCalls Try.prog 16 [70000, 70001] [70000] [e6a0 c0 c1 c2 c3 c4 c5, e6a1 c6] [.c (.ptr 70000 0), .agg [.pI rv, .pI k, .pI rv2]] (fun av hp' => ∃ y : Lqb, av = .tup [] ∧ hp' = [e6a0 c0 c1 c2 c3 c4 c5, (70001, [], .dict t3 (.sl (.pr tI (.sl t3))) y)] ∧ K y)
  | 0, _, _, _, _, _, h => False.elim h
  | n + 1, rv, k, rv2, c6, K, h => linkc16 c0 c1 c2 c3 c4 c5 (VCc16_it c0 c1 c2 c3 c4 c5 n) (linkci16 c0 c1 c2 c3 c4 c5 n) rv k rv2 c6 K h
theorem linkcr16 (c0 c1 c2 : Int) (c3 : LR) (c4 : LI) (c5 : Lqc) (rv k rv2 : Int) (c6 : Lqb) (K : Lqb → Prop) (h : VCcr16 c0 c1 c2 c3 c4 c5 rv k rv2 c6 K) : LCalls Try.prog 16 [70000, 70001] [70000] [e6a0 c0 c1 c2 c3 c4 c5, e6a1 c6] [.c (.ptr 70000 0), .agg [.pI rv, .pI k, .pI rv2]] (fun av hp' => ∃ y : Lqb, av = .tup [] ∧ hp' = [e6a0 c0 c1 c2 c3 c4 c5, (70001, [], .dict t3 (.sl (.pr tI (.sl t3))) y)] ∧ K y) := by
  obtain ⟨n, h⟩ := h
  exact linkci16 c0 c1 c2 c3 c4 c5 n rv k rv2 c6 K h
end Dec
