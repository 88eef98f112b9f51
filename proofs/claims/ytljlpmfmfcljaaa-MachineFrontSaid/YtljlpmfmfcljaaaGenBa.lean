/-
Printed by dec2.py: of each function its plain demand, and that the demand gives the contract.
-/
import Derived.Test.YtljlpmfmfcljaaaProg
import Derived.Test.YtljlpmfmfcljaaaDecRh
set_option linter.unusedSimpArgs false
set_option linter.unusedVariables false
set_option maxRecDepth 100000
namespace Dec
open Go Go.RowKit Go.Proofs
-- coppicer/machine.within
def VC31 (n : Int) (low : Int) (high : Int) (K : Bool → Prop) : Prop :=
  K ((decide (low ≤ n)) && (decide (n ≤ high)))
set_option maxHeartbeats 4000000 in
theorem link31 (n : Int) (low : Int) (high : Int) (K : Bool → Prop) (h : VC31 n low high K) : ACalls Try.prog 31 [toV1 tI n, toV1 tI low, toV1 tI high] (fun res => ∃ y, res = (fun y => [toV1 .bool y]) y ∧ K y) := by
 refine acalls_of_aw [.bool] [.t 6] Try.func31 rfl rfl rfl ?_
 unfold VC31 at h
 refine sr ?_
 refine rqT 1 ⟨15, [sI 0 n, sI 1 low, sI 2 high], []⟩ (by kernel_rfl) ?_
 refine nsr ?_
 refine rq 9 (ob := (Ts 4 (Ti 3 ((decide (low ≤ n)) = true → True) (Ts 2 True)))) (st' := (⟨15, [sB 6 ((decide (low ≤ n)) && (decide (n ≤ high)))], []⟩ : St)) (by kernel_rfl) (tsI 4 (tiI 3 (fun _ => trivial) (tsI 2 trivial))) ?_
 refine nn ?_
 refine aw_ret ?_
 exact retQ_r (ob := Ts 1 True) _ (by kernel_rfl) (tsI 1 trivial) h
-- coppicer/machine.Check$1
def VC33 (l : LI) (a1 : (Int × (Int × (LL × (Int × Int))))) (K : Bool → Prop) : Prop :=
  K (!decide ((l.length : Int) = a1.2.1))
set_option maxHeartbeats 4000000 in
theorem link33 (l : LI) (a1 : (Int × (Int × (LL × (Int × Int))))) (K : Bool → Prop) (h : VC33 l a1 K) : ACalls Try.prog 33 [toV1 (.sl tI) l, .c (.ad (.pr tI (.pr tI (.pr (.sl (.sl tI)) (.pr tI (.int .u32))))) a1)] (fun res => ∃ y, res = (fun y => [toV1 .bool y]) y ∧ K y) := by
 refine acalls_of_aw [.bool] [.t 3] Try.func33 rfl rfl rfl ?_
 unfold VC33 at h
 refine sr ?_
 refine rqT 1 ⟨9, [s1 0 (.pS l), s1 1 (.ad (.pr tI (.pr tI (.pr (.sl (.sl tI)) (.pr tI (.int .u32))))) a1)], []⟩ (by kernel_rfl) ?_
 refine nsr ?_
 refine rqT 6 ⟨9, [sB 3 (!decide ((l.length : Int) = a1.2.1))], []⟩ (by kernel_rfl) ?_
 refine nn ?_
 refine aw_ret ?_
 exact retQ_r (ob := Ts 1 True) _ (by kernel_rfl) (tsI 1 trivial) h
abbrev e50_0 (sv : LL) : Nat × Path × AV := s1 0 (.p (.sl (.sl tI)) sv)
abbrev e50_1 (sv : LL) : Nat × Path × AV := sI 7 (sv.length : Int)
-- slices.IndexFunc[[][]int,[]int]
def VC50_k1 (K : Int → Prop) : Prop :=
  K (-1 : Int)
def VC50_l1 (sv : LL) (F1 : LI → (Bool → Prop) → Prop) (K : Int → Prop) (v8 : Int) (X1 : Int → Prop) : Prop :=
  (((decide (v8 < (sv.length : Int))) = true → (inIdx v8 sv.length ∧ F1 (sv.getD (v8).toNat ([] : LI)) (fun (ret16v : Bool) => ((ret16v = true → K v8) ∧ (ret16v = false → (InR (v8 + (1 : Int)) ∧ X1 (v8 + (1 : Int)))))))) ∧ ((decide (v8 < (sv.length : Int))) = false → VC50_k1 K))
def VC50 (sv : LL) (F1 : LI → (Bool → Prop) → Prop) (K : Int → Prop) : Prop :=
  Loop (σ := Int) (fun s X => VC50_l1 sv F1 K s X) (0 : Int)
set_option maxHeartbeats 4000000 in
theorem link50 (sv : LL) (fv1 : FuncId) (cv1 : List Dat) (F1 : LI → (Bool → Prop) → Prop) (hF1 : FnIs Try.prog fv1 cv1 (fun (x : LI) => [toV1 (.sl tI) x]) (fun (y : Bool) => [toV1 .bool y]) F1) (K : Int → Prop) (h : VC50 sv F1 K) : ACalls Try.prog 50 [toV1 (.sl (.sl tI)) sv, .c (.fn fv1 cv1)] (fun res => ∃ y, res = (fun y => [toV1 tI y]) y ∧ K y) := by
 refine acalls_of_aw [tI] [.t 4] Try.func50 rfl rfl rfl ?_
 unfold VC50 at h
 refine srn 1 ⟨19, [e50_0 sv, s1 1 (.fn fv1 cv1)], []⟩ (by kernel_rfl) rfl ?_
 refine aw_seq ?_
 refine srn 3 ⟨19, [e50_0 sv, s1 1 (.fn fv1 cv1), e50_1 sv, sI 8 (0 : Int)], []⟩ (by kernel_rfl) rfl ?_
 refine withJoin (σ := Unit) (fun s => (⟨19, [], []⟩ : St)) (fun s => VC50_k1 K) (fun s h => ?_) (fun rest1 => ?_)
 ·have h : VC50_k1 K := h
  unfold VC50_k1 at h
  refine thenQ_n ?_
  refine srn 1 ⟨19, [sI 4 (-1 : Int)], []⟩ (by kernel_rfl) rfl ?_
  refine aw_ret ?_
  exact retQ_r (ob := Ts 1 True) _ (by kernel_rfl) (tsI 1 trivial) h
 ·refine aw_block ?_
  refine aw_loop (σ := Int) (fun s => (⟨19, [e50_0 sv, s1 1 (.fn fv1 cv1), e50_1 sv, sI 8 s], []⟩ : St)) (fun s X => VC50_l1 sv F1 K s X) (s0 := (0 : Int)) (fun v8 X1 h => ?_) h
  have h : VC50_l1 sv F1 K v8 X1 := h
  unfold VC50_l1 at h
  refine srn 1 ⟨19, [e50_0 sv, s1 1 (.fn fv1 cv1), e50_1 sv, sI 8 v8, sB 9 (decide (v8 < (sv.length : Int)))], []⟩ (by kernel_rfl) rfl ?_
  refine aw_seq ?_
  refine aw_cond (b := (decide (v8 < (sv.length : Int)))) (by kernel_rfl) (fun hb => ?_) (fun hb => ?_)
  ·have h := h.1 hb
   refine aw_skip ?_
   refine thenQ_n ?_
   refine aw_seq ?_
   refine aw_block ?_
   refine sr ?_
   refine rqT 2 ⟨19, [e50_0 sv, s1 1 (.fn fv1 cv1), sI 5 v8, e50_1 sv, sI 8 v8], []⟩ (by kernel_rfl) ?_
   refine nsr ?_
   obtain ⟨o1, h⟩ := h
   refine rq 5 (ob := (Ts 3 (inIdx v8 sv.length ∧ Ts 1 True))) (st' := (⟨19, [e50_0 sv, s1 1 (.fn fv1 cv1), sI 5 v8, e50_1 sv, sI 8 v8, s1 11 (.fn fv1 cv1), s1 15 (.pS (sv.getD (v8).toNat ([] : LI)))], []⟩ : St)) (by kernel_rfl) (tsI 3 ⟨o1, tsI 1 trivial⟩) ?_
   refine lcq (d := 16) [.d (.sl tI)] (fun ret16v => (⟨19, [e50_0 sv, s1 1 (.fn fv1 cv1), sI 5 v8, e50_1 sv, sI 8 v8, sB 16 ret16v], []⟩ : St)) (by kernel_rfl) hF1.1 (fun _ => by kernel_rfl) (hF1.2 (sv.getD (v8).toNat ([] : LI)) _ h) (fun ret16v h => ?_)
   refine nn ?_
   refine aw_cond (b := ret16v) (by kernel_rfl) (fun hb => ?_) (fun hb => ?_)
   ·have h := h.1 hb
    refine srn 2 ⟨19, [sI 4 v8], []⟩ (by kernel_rfl) rfl ?_
    refine aw_ret ?_
    refine blockQ_r ?_
    refine thenQ_r ?_
    refine thenQ_r ?_
    refine blockQ_r ?_
    refine thenQ_r ?_
    exact retQ_r (ob := Ts 1 True) _ (by kernel_rfl) (tsI 1 trivial) h
   ·have h := h.2 hb
    refine aw_skip ?_
    refine blockQ_n ?_
    refine thenQ_n ?_
    refine aw_region ?_
    obtain ⟨o1, h⟩ := h
    refine rq 2 (ob := (InR (v8 + (1 : Int)) ∧ Ts 1 True)) (st' := (⟨19, [e50_0 sv, s1 1 (.fn fv1 cv1), e50_1 sv, sI 8 (v8 + (1 : Int))], []⟩ : St)) (by kernel_rfl) (⟨o1, tsI 1 trivial⟩) ?_
    refine awl_nil ?_
    exact thenQ_n ⟨(v8 + (1 : Int)), rfl, h⟩
  ·have h := h.2 hb
   refine cpr (st' := (⟨19, [], []⟩ : St)) (by kernel_rfl) ?_
   refine aw_exit ?_
   refine thenQ_x ?_
   refine thenQ_x ?_
   refine blockQ_hit ?_
   exact rest1 () h
-- slices.ContainsFunc[[][]int,[]int]
def VC32 (sv : LL) (F1 : LI → (Bool → Prop) → Prop) (K : Bool → Prop) : Prop :=
  VC50 sv F1 (fun (ret7v : Int) => K (decide ((0 : Int) ≤ ret7v)))
set_option maxHeartbeats 4000000 in
theorem link32 (sv : LL) (fv1 : FuncId) (cv1 : List Dat) (F1 : LI → (Bool → Prop) → Prop) (hF1 : FnIs Try.prog fv1 cv1 (fun (x : LI) => [toV1 (.sl tI) x]) (fun (y : Bool) => [toV1 .bool y]) F1) (K : Bool → Prop) (h : VC32 sv F1 K) : ACalls Try.prog 32 [toV1 (.sl (.sl tI)) sv, .c (.fn fv1 cv1)] (fun res => ∃ y, res = (fun y => [toV1 .bool y]) y ∧ K y) := by
 refine acalls_of_aw [.bool] [.t 4] Try.func32 rfl rfl rfl ?_
 unfold VC32 at h
 refine sr ?_
 refine rqT 1 ⟨9, [s1 0 (.p (.sl (.sl tI)) sv), s1 1 (.fn fv1 cv1)], []⟩ (by kernel_rfl) ?_
 refine nsr ?_
 refine rqT 2 ⟨9, [s1 5 (.p (.sl (.sl tI)) sv), s1 6 (.fn fv1 cv1)], []⟩ (by kernel_rfl) ?_
 refine lcq (d := 7) [.d (.sl (.sl tI)), .fn] (fun ret7v => (⟨9, [sI 7 ret7v], []⟩ : St)) (by kernel_rfl) Try.call50 (fun _ => by kernel_rfl) (link50 sv fv1 cv1 F1 hF1 _ h) (fun ret7v h => ?_)
 refine rqT 2 ⟨9, [sB 4 (decide ((0 : Int) ≤ ret7v))], []⟩ (by kernel_rfl) ?_
 refine nn ?_
 refine aw_ret ?_
 exact retQ_r (ob := Ts 1 True) _ (by kernel_rfl) (tsI 1 trivial) h
-- coppicer/machine.Check$2
def VC34 (n : Int) (a1 : (Int × (Int × (LL × (Int × Int))))) (K : Bool → Prop) : Prop :=
  (InR (a1.1 - (1 : Int)) ∧ VC31 n (0 : Int) (a1.1 - (1 : Int)) (fun (ret8v : Bool) => K ret8v))
set_option maxHeartbeats 4000000 in
theorem link34 (n : Int) (a1 : (Int × (Int × (LL × (Int × Int))))) (K : Bool → Prop) (h : VC34 n a1 K) : ACalls Try.prog 34 [toV1 tI n, .c (.ad (.pr tI (.pr tI (.pr (.sl (.sl tI)) (.pr tI (.int .u32))))) a1)] (fun res => ∃ y, res = (fun y => [toV1 .bool y]) y ∧ K y) := by
 refine acalls_of_aw [.bool] [.t 3] Try.func34 rfl rfl rfl ?_
 unfold VC34 at h
 refine sr ?_
 refine rqT 1 ⟨9, [sI 0 n, s1 1 (.ad (.pr tI (.pr tI (.pr (.sl (.sl tI)) (.pr tI (.int .u32))))) a1)], []⟩ (by kernel_rfl) ?_
 refine nsr ?_
 obtain ⟨o1, h⟩ := h
 refine rq 4 (ob := (Ts 3 (InR (a1.1 - (1 : Int)) ∧ True))) (st' := (⟨9, [sI 4 n, sI 7 (a1.1 - (1 : Int))], []⟩ : St)) (by kernel_rfl) (tsI 3 ⟨o1, trivial⟩) ?_
 refine lcq (d := 8) [.d tI, .d tI, .d tI] (fun ret8v => (⟨9, [sB 8 ret8v], []⟩ : St)) (by kernel_rfl) Try.call31 (fun _ => by kernel_rfl) (link31 n (0 : Int) (a1.1 - (1 : Int)) _ h) (fun ret8v h => ?_)
 refine rqT 1 ⟨9, [sB 3 ret8v], []⟩ (by kernel_rfl) ?_
 refine nn ?_
 refine aw_ret ?_
 exact retQ_r (ob := Ts 1 True) _ (by kernel_rfl) (tsI 1 trivial) h
abbrev e20_0 (m : (Int × (Int × (LL × (Int × Int))))) : Nat × Path × AV := s1 1 (.ad (.pr tI (.pr tI (.pr (.sl (.sl tI)) (.pr tI (.int .u32))))) m)
abbrev e20_1 (m : (Int × (Int × (LL × (Int × Int))))) : Nat × Path × Con := hB 1 [.pI m.1, .pI m.2.1, .p (.sl (.sl tI)) m.2.2.1, .pI m.2.2.2.1, .pW m.2.2.2.2]
abbrev e20_2 (m : (Int × (Int × (LL × (Int × Int))))) : Nat × Path × AV := s1 32 (.p (.sl (.sl tI)) m.2.2.1)
abbrev e20_3 (m : (Int × (Int × (LL × (Int × Int))))) (v34 : Int) : Nat × Path × AV := sI 39 ((m.2.2.1.getD (v34).toNat ([] : LI)).length : Int)
abbrev e20_4 (m : (Int × (Int × (LL × (Int × Int))))) : Nat × Path × AV := sI 33 (m.2.2.1.length : Int)
abbrev e20_5 (m : (Int × (Int × (LL × (Int × Int))))) (v34 : Int) : Nat × Path × AV := s1 38 (.pS (m.2.2.1.getD (v34).toNat ([] : LI)))
abbrev e20_6 (m : (Int × (Int × (LL × (Int × Int))))) : Nat × Path × AV := (26, [(24, false)], .v (.c (.p (.sl (.sl tI)) m.2.2.1)))
abbrev e20_7 (m : (Int × (Int × (LL × (Int × Int))))) : Nat × Path × AV := sB 24 (!decide ((m.2.2.1.length : Int) = m.1))
-- coppicer/machine.Check
def VC20_k1 (m : (Int × (Int × (LL × (Int × Int))))) (K : Int → Prop) : Prop :=
  VC34 m.2.2.2.1 m (fun (ret53v : Bool) => (((!ret53v) = true → K (2 : Int)) ∧ ((!ret53v) = false → ((0 ≤ m.2.2.2.2 ∧ 0 ≤ m.1) ∧ (((!decide ((bShr .u32 m.2.2.2.2 m.1) = (0 : Int))) = true → K (4 : Int)) ∧ ((!decide ((bShr .u32 m.2.2.2.2 m.1) = (0 : Int))) = false → K (0 : Int)))))))
def VC20_k2 (v34 : Int) (X1 : Int → Prop) : Prop :=
  (InR (v34 + (1 : Int)) ∧ X1 (v34 + (1 : Int)))
def VC20_l2 (m : (Int × (Int × (LL × (Int × Int))))) (K : Int → Prop) (v34 : Int) (X1 : Int → Prop) (v40 : Int) (X2 : Int → Prop) : Prop :=
  (((decide (v40 < ((m.2.2.1.getD (v34).toNat ([] : LI)).length : Int))) = true → (inIdx v40 (m.2.2.1.getD (v34).toNat ([] : LI)).length ∧ VC34 ((m.2.2.1.getD (v34).toNat ([] : LI)).getD (v40).toNat (0 : Int)) m (fun (ret46v : Bool) => (((!ret46v) = true → K (2 : Int)) ∧ ((!ret46v) = false → (InR (v40 + (1 : Int)) ∧ X2 (v40 + (1 : Int)))))))) ∧ ((decide (v40 < ((m.2.2.1.getD (v34).toNat ([] : LI)).length : Int))) = false → VC20_k2 v34 X1))
def VC20_l1 (m : (Int × (Int × (LL × (Int × Int))))) (K : Int → Prop) (v34 : Int) (X1 : Int → Prop) : Prop :=
  (((decide (v34 < (m.2.2.1.length : Int))) = true → (inIdx v34 m.2.2.1.length ∧ Loop (σ := Int) (fun s X => VC20_l2 m K v34 X1 s X) (0 : Int))) ∧ ((decide (v34 < (m.2.2.1.length : Int))) = false → VC20_k1 m K))
def VC20 (m : (Int × (Int × (LL × (Int × Int))))) (K : Int → Prop) : Prop :=
  VC31 m.1 (1 : Int) (7 : Int) (fun (ret10v : Bool) => gcall (α := Bool) (!(!ret10v)) (VC31 m.2.1 (1 : Int) (3 : Int)) false (fun (ret15v : Bool) => ((((!ret10v) || (!ret15v)) = true → K (1 : Int)) ∧ (((!ret10v) || (!ret15v)) = false → gcall (α := Bool) (!(!decide ((m.2.2.1.length : Int) = m.1))) (VC32 m.2.2.1 (fun (x : LI) (K : Bool → Prop) => VC33 x m K)) false (fun (ret28v : Bool) => ((((!decide ((m.2.2.1.length : Int) = m.1)) || ret28v) = true → K (3 : Int)) ∧ (((!decide ((m.2.2.1.length : Int) = m.1)) || ret28v) = false → Loop (σ := Int) (fun s X => VC20_l1 m K s X) (0 : Int))))))))
set_option maxHeartbeats 4000000 in
theorem link20 (m : (Int × (Int × (LL × (Int × Int))))) (K : Int → Prop) (h : VC20 m K) : ACalls Try.prog 20 [toV1 (.pr tI (.pr tI (.pr (.sl (.sl tI)) (.pr tI (.int .u32))))) m] (fun res => ∃ y, res = (fun y => [toV1 tI y]) y ∧ K y) := by
 refine acalls_of_aw [tI] [.t 2] Try.func20 rfl rfl rfl ?_
 unfold VC20 at h
 refine srn 2 ⟨61, [sp 1 1], [e20_1 m]⟩ (by kernel_rfl) rfl ?_
 refine aw_seq ?_
 refine sr ?_
 refine rqT 2 ⟨61, [sp 1 1, sI 9 m.1], [e20_1 m]⟩ (by kernel_rfl) ?_
 refine lcq (d := 10) [.d tI, .d tI, .d tI] (fun ret10v => (⟨61, [sp 1 1, sB 10 ret10v], [e20_1 m]⟩ : St)) (by kernel_rfl) Try.call31 (fun _ => by kernel_rfl) (link31 m.1 (1 : Int) (7 : Int) _ h) (fun ret10v h => ?_)
 refine rq 4 (ob := (Ts 2 (Ti 2 ((!ret10v) = false → True) True))) (st' := (⟨61, [sp 1 1, sB 12 (!ret10v), (14, [(12, false)], .v (.c (.pI m.2.1)))], [e20_1 m]⟩ : St)) (by kernel_rfl) (tsI 2 (tiI 2 (fun _ => trivial) trivial)) ?_
 refine awl_callk (p := [(12, false)]) (l := [toV1 tI m.2.1, toV1 tI (1 : Int), toV1 tI (3 : Int)]) (cl := []) false [.d tI, .d tI, .d tI] [1, 12, 15] [1] (fun (ret15v : Bool) => ((((!ret10v) || (!ret15v)) = true → K (1 : Int)) ∧ (((!ret10v) || (!ret15v)) = false → gcall (α := Bool) (!(!decide ((m.2.2.1.length : Int) = m.1))) (VC32 m.2.2.1 (fun (x : LI) (K : Bool → Prop) => VC33 x m K)) false (fun (ret28v : Bool) => ((((!decide ((m.2.2.1.length : Int) = m.1)) || ret28v) = true → K (3 : Int)) ∧ (((!decide ((m.2.2.1.length : Int) = m.1)) || ret28v) = false → Loop (σ := Int) (fun s X => VC20_l1 m K s X) (0 : Int))))))) (fun ret15v => [toV1 .bool ret15v]) (fun ret15v => (⟨61, [sp 1 1, sB 12 (!ret10v), (15, [(12, false)], .v (.c (.pB ret15v)))], [e20_1 m]⟩ : St)) (by kernel_rfl) rfl (by kernel_rfl) rfl (by kernel_rfl) Try.call31 (by kernel_rfl) (fun ret15v => by kernel_rfl) (fun e => by cases e) (fun hg => link31 m.2.1 (1 : Int) (3 : Int) _ (by have := gcall_T h (show (!(!ret10v)) = true from hg); exact this)) (fun hg => ⟨false, by have := gcall_F h (show (!(!ret10v)) = false from hg); exact this⟩) (fun ret15v h => ?_)
 refine rq 2 (ob := (((!ret10v) = false → True) ∧ Ts 1 True)) (st' := (⟨61, [sp 1 1, sB 17 ((!ret10v) || (!ret15v))], [e20_1 m]⟩ : St)) (by kernel_rfl) (⟨(fun _ => trivial), tsI 1 trivial⟩) ?_
 refine nn ?_
 refine aw_cond (b := ((!ret10v) || (!ret15v))) (by kernel_rfl) (fun hb => ?_) (fun hb => ?_)
 ·have h := h.1 hb
  refine srn 1 ⟨61, [sI 2 (1 : Int)], []⟩ (by kernel_rfl) rfl ?_
  refine aw_ret ?_
  refine thenQ_r ?_
  exact retQ_r (ob := Ts 1 True) _ (by kernel_rfl) (tsI 1 trivial) h
 ·have h := h.2 hb
  refine aw_skip ?_
  refine thenQ_n ?_
  refine aw_seq ?_
  refine sr ?_
  refine rq 9 (ob := (Ts 7 (Ti 2 ((!decide ((m.2.2.1.length : Int) = m.1)) = false → True) True))) (st' := (⟨61, [sp 1 1, e20_7 m, e20_6 m], [e20_1 m]⟩ : St)) (by kernel_rfl) (tsI 7 (tiI 2 (fun _ => trivial) trivial)) ?_
  refine awl_conv [.freezeB 1 (.pr tI (.pr tI (.pr (.sl (.sl tI)) (.pr tI (.int .u32)))))] (st' := (⟨61, [e20_0 m, e20_7 m, e20_6 m], []⟩ : St)) (by kernel_rfl) ?_
  refine rq 1 (ob := (((!decide ((m.2.2.1.length : Int) = m.1)) = false → True) ∧ True)) (st' := (⟨61, [e20_0 m, e20_7 m, e20_6 m, (27, [(24, false)], .v (.c (.fn 33 [(⟨(.pr tI (.pr tI (.pr (.sl (.sl tI)) (.pr tI (.int .u32))))), m⟩ : Dat)])))], []⟩ : St)) (by kernel_rfl) (⟨(fun _ => trivial), trivial⟩) ?_
  refine awl_callk (p := [(24, false)]) (l := [toV1 (.sl (.sl tI)) m.2.2.1, .c (.fn 33 [(⟨(.pr tI (.pr tI (.pr (.sl (.sl tI)) (.pr tI (.int .u32))))), m⟩ : Dat)])]) (cl := []) false [.d (.sl (.sl tI)), .fn] [1, 24, 28] [] (fun (ret28v : Bool) => ((((!decide ((m.2.2.1.length : Int) = m.1)) || ret28v) = true → K (3 : Int)) ∧ (((!decide ((m.2.2.1.length : Int) = m.1)) || ret28v) = false → Loop (σ := Int) (fun s X => VC20_l1 m K s X) (0 : Int)))) (fun ret28v => [toV1 .bool ret28v]) (fun ret28v => (⟨61, [e20_0 m, e20_7 m, (28, [(24, false)], .v (.c (.pB ret28v)))], []⟩ : St)) (by kernel_rfl) rfl (by kernel_rfl) rfl (by kernel_rfl) Try.call32 (by kernel_rfl) (fun ret28v => by kernel_rfl) (fun e => by cases e) (fun hg => link32 m.2.2.1 33 [(⟨(.pr tI (.pr tI (.pr (.sl (.sl tI)) (.pr tI (.int .u32))))), m⟩ : Dat)] (fun (x : LI) (K : Bool → Prop) => VC33 x m K) ⟨Try.call33, fun x K h => link33 x m K h⟩ _ (by have := gcall_T h (show (!(!decide ((m.2.2.1.length : Int) = m.1))) = true from hg); exact this)) (fun hg => ⟨false, by have := gcall_F h (show (!(!decide ((m.2.2.1.length : Int) = m.1))) = false from hg); exact this⟩) (fun ret28v h => ?_)
  refine rqT 1 ⟨61, [e20_0 m, sB 29 ((!decide ((m.2.2.1.length : Int) = m.1)) || ret28v)], []⟩ (by kernel_rfl) ?_
  refine nn ?_
  refine aw_cond (b := ((!decide ((m.2.2.1.length : Int) = m.1)) || ret28v)) (by kernel_rfl) (fun hb => ?_) (fun hb => ?_)
  ·have h := h.1 hb
   refine srn 1 ⟨61, [sI 2 (3 : Int)], []⟩ (by kernel_rfl) rfl ?_
   refine aw_ret ?_
   refine thenQ_r ?_
   exact retQ_r (ob := Ts 1 True) _ (by kernel_rfl) (tsI 1 trivial) h
  ·have h := h.2 hb
   refine aw_skip ?_
   refine thenQ_n ?_
   refine srn 2 ⟨61, [e20_0 m, s1 3 (.fn 34 [(⟨(.pr tI (.pr tI (.pr (.sl (.sl tI)) (.pr tI (.int .u32))))), m⟩ : Dat)])], []⟩ (by kernel_rfl) rfl ?_
   refine aw_seq ?_
   refine srn 4 ⟨61, [e20_0 m, s1 3 (.fn 34 [(⟨(.pr tI (.pr tI (.pr (.sl (.sl tI)) (.pr tI (.int .u32))))), m⟩ : Dat)]), e20_2 m, e20_4 m, sI 34 (0 : Int)], []⟩ (by kernel_rfl) rfl ?_
   refine withJoin (σ := Unit) (fun s => (⟨61, [e20_0 m, s1 3 (.fn 34 [(⟨(.pr tI (.pr tI (.pr (.sl (.sl tI)) (.pr tI (.int .u32))))), m⟩ : Dat)])], []⟩ : St)) (fun s => VC20_k1 m K) (fun s h => ?_) (fun rest1 => ?_)
   ·have h : VC20_k1 m K := h
    unfold VC20_k1 at h
    refine thenQ_n ?_
    refine aw_seq ?_
    refine sr ?_
    refine rqT 3 ⟨61, [e20_0 m, s1 50 (.fn 34 [(⟨(.pr tI (.pr tI (.pr (.sl (.sl tI)) (.pr tI (.int .u32))))), m⟩ : Dat)]), sI 52 m.2.2.2.1], []⟩ (by kernel_rfl) ?_
    refine lcq (d := 53) [.d tI] (fun ret53v => (⟨61, [e20_0 m, sB 53 ret53v], []⟩ : St)) (by kernel_rfl) Try.call34 (fun _ => by kernel_rfl) (link34 m.2.2.2.1 m _ h) (fun ret53v h => ?_)
    refine rqT 1 ⟨61, [e20_0 m, sB 54 (!ret53v)], []⟩ (by kernel_rfl) ?_
    refine nn ?_
    refine aw_cond (b := (!ret53v)) (by kernel_rfl) (fun hb => ?_) (fun hb => ?_)
    ·have h := h.1 hb
     refine srn 1 ⟨61, [sI 2 (2 : Int)], []⟩ (by kernel_rfl) rfl ?_
     refine aw_ret ?_
     refine thenQ_r ?_
     exact retQ_r (ob := Ts 1 True) _ (by kernel_rfl) (tsI 1 trivial) h
    ·have h := h.2 hb
     refine aw_skip ?_
     refine thenQ_n ?_
     refine aw_seq ?_
     refine sr ?_
     obtain ⟨o1, h⟩ := h
     refine rq 6 (ob := (Ts 4 ((0 ≤ m.2.2.2.2 ∧ 0 ≤ m.1) ∧ Ts 1 True))) (st' := (⟨61, [sB 60 (!decide ((bShr .u32 m.2.2.2.2 m.1) = (0 : Int)))], []⟩ : St)) (by kernel_rfl) (tsI 4 ⟨o1, tsI 1 trivial⟩) ?_
     refine nn ?_
     refine aw_cond (b := (!decide ((bShr .u32 m.2.2.2.2 m.1) = (0 : Int)))) (by kernel_rfl) (fun hb => ?_) (fun hb => ?_)
     ·have h := h.1 hb
      refine srn 1 ⟨61, [sI 2 (4 : Int)], []⟩ (by kernel_rfl) rfl ?_
      refine aw_ret ?_
      refine thenQ_r ?_
      exact retQ_r (ob := Ts 1 True) _ (by kernel_rfl) (tsI 1 trivial) h
     ·have h := h.2 hb
      refine aw_skip ?_
      refine thenQ_n ?_
      refine srn 1 ⟨61, [sI 2 (0 : Int)], []⟩ (by kernel_rfl) rfl ?_
      refine aw_ret ?_
      exact retQ_r (ob := Ts 1 True) _ (by kernel_rfl) (tsI 1 trivial) h
   ·refine aw_block ?_
    refine aw_loop (σ := Int) (fun s => (⟨61, [e20_0 m, s1 3 (.fn 34 [(⟨(.pr tI (.pr tI (.pr (.sl (.sl tI)) (.pr tI (.int .u32))))), m⟩ : Dat)]), e20_2 m, e20_4 m, sI 34 s], []⟩ : St)) (fun s X => VC20_l1 m K s X) (s0 := (0 : Int)) (fun v34 X1 h => ?_) h
    have h : VC20_l1 m K v34 X1 := h
    unfold VC20_l1 at h
    refine srn 1 ⟨61, [e20_0 m, s1 3 (.fn 34 [(⟨(.pr tI (.pr tI (.pr (.sl (.sl tI)) (.pr tI (.int .u32))))), m⟩ : Dat)]), e20_2 m, e20_4 m, sI 34 v34, sB 35 (decide (v34 < (m.2.2.1.length : Int)))], []⟩ (by kernel_rfl) rfl ?_
    refine aw_seq ?_
    refine aw_cond (b := (decide (v34 < (m.2.2.1.length : Int)))) (by kernel_rfl) (fun hb => ?_) (fun hb => ?_)
    ·have h := h.1 hb
     refine aw_skip ?_
     refine thenQ_n ?_
     refine aw_seq ?_
     refine aw_block ?_
     refine sr ?_
     obtain ⟨o1, h⟩ := h
     refine rq 3 (ob := (inIdx v34 m.2.2.1.length ∧ Ts 2 True)) (st' := (⟨61, [e20_0 m, s1 3 (.fn 34 [(⟨(.pr tI (.pr tI (.pr (.sl (.sl tI)) (.pr tI (.int .u32))))), m⟩ : Dat)]), s1 5 (.pS (m.2.2.1.getD (v34).toNat ([] : LI))), e20_2 m, e20_4 m, sI 34 v34], []⟩ : St)) (by kernel_rfl) (⟨o1, tsI 2 trivial⟩) ?_
     refine nsr ?_
     refine rqT 3 ⟨61, [e20_0 m, s1 3 (.fn 34 [(⟨(.pr tI (.pr tI (.pr (.sl (.sl tI)) (.pr tI (.int .u32))))), m⟩ : Dat)]), e20_2 m, e20_4 m, sI 34 v34, e20_5 m v34, e20_3 m v34, sI 40 (0 : Int)], []⟩ (by kernel_rfl) ?_
     refine nn ?_
     refine withJoin (σ := Unit) (fun s => (⟨61, [e20_0 m, s1 3 (.fn 34 [(⟨(.pr tI (.pr tI (.pr (.sl (.sl tI)) (.pr tI (.int .u32))))), m⟩ : Dat)]), e20_2 m, e20_4 m, sI 34 v34], []⟩ : St)) (fun s => VC20_k2 v34 X1) (fun s h => ?_) (fun rest2 => ?_)
     ·have h : VC20_k2 v34 X1 := h
      unfold VC20_k2 at h
      refine blockQ_n ?_
      refine thenQ_n ?_
      refine aw_region ?_
      obtain ⟨o1, h⟩ := h
      refine rq 2 (ob := (InR (v34 + (1 : Int)) ∧ Ts 1 True)) (st' := (⟨61, [e20_0 m, s1 3 (.fn 34 [(⟨(.pr tI (.pr tI (.pr (.sl (.sl tI)) (.pr tI (.int .u32))))), m⟩ : Dat)]), e20_2 m, e20_4 m, sI 34 (v34 + (1 : Int))], []⟩ : St)) (by kernel_rfl) (⟨o1, tsI 1 trivial⟩) ?_
      refine awl_nil ?_
      exact thenQ_n ⟨(v34 + (1 : Int)), rfl, h⟩
     ·refine aw_block ?_
      refine aw_loop (σ := Int) (fun s => (⟨61, [e20_0 m, s1 3 (.fn 34 [(⟨(.pr tI (.pr tI (.pr (.sl (.sl tI)) (.pr tI (.int .u32))))), m⟩ : Dat)]), e20_2 m, e20_4 m, sI 34 v34, e20_5 m v34, e20_3 m v34, sI 40 s], []⟩ : St)) (fun s X => VC20_l2 m K v34 X1 s X) (s0 := (0 : Int)) (fun v40 X2 h => ?_) h
      have h : VC20_l2 m K v34 X1 v40 X2 := h
      unfold VC20_l2 at h
      refine srn 1 ⟨61, [e20_0 m, s1 3 (.fn 34 [(⟨(.pr tI (.pr tI (.pr (.sl (.sl tI)) (.pr tI (.int .u32))))), m⟩ : Dat)]), e20_2 m, e20_4 m, sI 34 v34, e20_5 m v34, e20_3 m v34, sI 40 v40, sB 41 (decide (v40 < ((m.2.2.1.getD (v34).toNat ([] : LI)).length : Int)))], []⟩ (by kernel_rfl) rfl ?_
      refine aw_seq ?_
      refine aw_cond (b := (decide (v40 < ((m.2.2.1.getD (v34).toNat ([] : LI)).length : Int)))) (by kernel_rfl) (fun hb => ?_) (fun hb => ?_)
      ·have h := h.1 hb
       refine aw_skip ?_
       refine thenQ_n ?_
       refine aw_seq ?_
       refine aw_block ?_
       refine sr ?_
       obtain ⟨o1, h⟩ := h
       refine rq 3 (ob := (inIdx v40 (m.2.2.1.getD (v34).toNat ([] : LI)).length ∧ Ts 2 True)) (st' := (⟨61, [e20_0 m, s1 3 (.fn 34 [(⟨(.pr tI (.pr tI (.pr (.sl (.sl tI)) (.pr tI (.int .u32))))), m⟩ : Dat)]), sI 7 ((m.2.2.1.getD (v34).toNat ([] : LI)).getD (v40).toNat (0 : Int)), e20_2 m, e20_4 m, sI 34 v34, e20_5 m v34, e20_3 m v34, sI 40 v40], []⟩ : St)) (by kernel_rfl) (⟨o1, tsI 2 trivial⟩) ?_
       refine nsr ?_
       refine rqT 2 ⟨61, [e20_0 m, s1 3 (.fn 34 [(⟨(.pr tI (.pr tI (.pr (.sl (.sl tI)) (.pr tI (.int .u32))))), m⟩ : Dat)]), e20_2 m, e20_4 m, sI 34 v34, e20_5 m v34, e20_3 m v34, sI 40 v40, s1 44 (.fn 34 [(⟨(.pr tI (.pr tI (.pr (.sl (.sl tI)) (.pr tI (.int .u32))))), m⟩ : Dat)]), sI 45 ((m.2.2.1.getD (v34).toNat ([] : LI)).getD (v40).toNat (0 : Int))], []⟩ (by kernel_rfl) ?_
       refine lcq (d := 46) [.d tI] (fun ret46v => (⟨61, [e20_0 m, s1 3 (.fn 34 [(⟨(.pr tI (.pr tI (.pr (.sl (.sl tI)) (.pr tI (.int .u32))))), m⟩ : Dat)]), e20_2 m, e20_4 m, sI 34 v34, e20_5 m v34, e20_3 m v34, sI 40 v40, sB 46 ret46v], []⟩ : St)) (by kernel_rfl) Try.call34 (fun _ => by kernel_rfl) (link34 ((m.2.2.1.getD (v34).toNat ([] : LI)).getD (v40).toNat (0 : Int)) m _ h) (fun ret46v h => ?_)
       refine rqT 1 ⟨61, [e20_0 m, s1 3 (.fn 34 [(⟨(.pr tI (.pr tI (.pr (.sl (.sl tI)) (.pr tI (.int .u32))))), m⟩ : Dat)]), e20_2 m, e20_4 m, sI 34 v34, e20_5 m v34, e20_3 m v34, sI 40 v40, sB 47 (!ret46v)], []⟩ (by kernel_rfl) ?_
       refine nn ?_
       refine aw_cond (b := (!ret46v)) (by kernel_rfl) (fun hb => ?_) (fun hb => ?_)
       ·have h := h.1 hb
        refine srn 1 ⟨61, [sI 2 (2 : Int)], []⟩ (by kernel_rfl) rfl ?_
        refine aw_ret ?_
        refine blockQ_r ?_
        refine thenQ_r ?_
        refine thenQ_r ?_
        refine blockQ_r ?_
        refine blockQ_r ?_
        refine thenQ_r ?_
        refine thenQ_r ?_
        refine blockQ_r ?_
        refine thenQ_r ?_
        exact retQ_r (ob := Ts 1 True) _ (by kernel_rfl) (tsI 1 trivial) h
       ·have h := h.2 hb
        refine aw_skip ?_
        refine blockQ_n ?_
        refine thenQ_n ?_
        refine aw_region ?_
        obtain ⟨o1, h⟩ := h
        refine rq 2 (ob := (InR (v40 + (1 : Int)) ∧ Ts 1 True)) (st' := (⟨61, [e20_0 m, s1 3 (.fn 34 [(⟨(.pr tI (.pr tI (.pr (.sl (.sl tI)) (.pr tI (.int .u32))))), m⟩ : Dat)]), e20_2 m, e20_4 m, sI 34 v34, e20_5 m v34, e20_3 m v34, sI 40 (v40 + (1 : Int))], []⟩ : St)) (by kernel_rfl) (⟨o1, tsI 1 trivial⟩) ?_
        refine awl_nil ?_
        exact thenQ_n ⟨(v40 + (1 : Int)), rfl, h⟩
      ·have h := h.2 hb
       refine cpr (st' := (⟨61, [e20_0 m, s1 3 (.fn 34 [(⟨(.pr tI (.pr tI (.pr (.sl (.sl tI)) (.pr tI (.int .u32))))), m⟩ : Dat)]), e20_2 m, e20_4 m, sI 34 v34], []⟩ : St)) (by kernel_rfl) ?_
       refine aw_exit ?_
       refine thenQ_x ?_
       refine thenQ_x ?_
       refine blockQ_hit ?_
       exact rest2 () h
    ·have h := h.2 hb
     refine cpr (st' := (⟨61, [e20_0 m, s1 3 (.fn 34 [(⟨(.pr tI (.pr tI (.pr (.sl (.sl tI)) (.pr tI (.int .u32))))), m⟩ : Dat)])], []⟩ : St)) (by kernel_rfl) ?_
     refine aw_exit ?_
     refine thenQ_x ?_
     refine thenQ_x ?_
     refine blockQ_hit ?_
     exact rest1 () h
-- coppicer/machine.Word$1
def VC36 (sv : Int) (a1 : Int) (K : Bool → Prop) : Prop :=
  (InR (a1 - (1 : Int)) ∧ VC31 sv (0 : Int) (a1 - (1 : Int)) (fun (ret7v : Bool) => K (!ret7v)))
set_option maxHeartbeats 4000000 in
theorem link36 (sv : Int) (a1 : Int) (K : Bool → Prop) (h : VC36 sv a1 K) : ACalls Try.prog 36 [toV1 tI sv, .c (.ad tI a1)] (fun res => ∃ y, res = (fun y => [toV1 .bool y]) y ∧ K y) := by
 refine acalls_of_aw [.bool] [.t 3] Try.func36 rfl rfl rfl ?_
 unfold VC36 at h
 refine sr ?_
 refine rqT 1 ⟨9, [sI 0 sv, s1 1 (.ad tI a1)], []⟩ (by kernel_rfl) ?_
 refine nsr ?_
 obtain ⟨o1, h⟩ := h
 refine rq 3 (ob := (Ts 2 (InR (a1 - (1 : Int)) ∧ True))) (st' := (⟨9, [sI 4 sv, sI 6 (a1 - (1 : Int))], []⟩ : St)) (by kernel_rfl) (tsI 2 ⟨o1, trivial⟩) ?_
 refine lcq (d := 7) [.d tI, .d tI, .d tI] (fun ret7v => (⟨9, [sB 7 ret7v], []⟩ : St)) (by kernel_rfl) Try.call31 (fun _ => by kernel_rfl) (link31 sv (0 : Int) (a1 - (1 : Int)) _ h) (fun ret7v h => ?_)
 refine rqT 2 ⟨9, [sB 3 (!ret7v)], []⟩ (by kernel_rfl) ?_
 refine nn ?_
 refine aw_ret ?_
 exact retQ_r (ob := Ts 1 True) _ (by kernel_rfl) (tsI 1 trivial) h
abbrev e51_0 (sv : LI) : Nat × Path × AV := sI 7 (sv.length : Int)
-- slices.IndexFunc[[]int,int]
def VC51_k1 (K : Int → Prop) : Prop :=
  K (-1 : Int)
def VC51_l1 (sv : LI) (F1 : Int → (Bool → Prop) → Prop) (K : Int → Prop) (v8 : Int) (X1 : Int → Prop) : Prop :=
  (((decide (v8 < (sv.length : Int))) = true → (inIdx v8 sv.length ∧ F1 (sv.getD (v8).toNat (0 : Int)) (fun (ret16v : Bool) => ((ret16v = true → K v8) ∧ (ret16v = false → (InR (v8 + (1 : Int)) ∧ X1 (v8 + (1 : Int)))))))) ∧ ((decide (v8 < (sv.length : Int))) = false → VC51_k1 K))
def VC51 (sv : LI) (F1 : Int → (Bool → Prop) → Prop) (K : Int → Prop) : Prop :=
  Loop (σ := Int) (fun s X => VC51_l1 sv F1 K s X) (0 : Int)
set_option maxHeartbeats 4000000 in
theorem link51 (sv : LI) (fv1 : FuncId) (cv1 : List Dat) (F1 : Int → (Bool → Prop) → Prop) (hF1 : FnIs Try.prog fv1 cv1 (fun (x : Int) => [toV1 tI x]) (fun (y : Bool) => [toV1 .bool y]) F1) (K : Int → Prop) (h : VC51 sv F1 K) : ACalls Try.prog 51 [toV1 (.sl tI) sv, .c (.fn fv1 cv1)] (fun res => ∃ y, res = (fun y => [toV1 tI y]) y ∧ K y) := by
 refine acalls_of_aw [tI] [.t 4] Try.func51 rfl rfl rfl ?_
 unfold VC51 at h
 refine srn 1 ⟨19, [s1 0 (.pS sv), s1 1 (.fn fv1 cv1)], []⟩ (by kernel_rfl) rfl ?_
 refine aw_seq ?_
 refine srn 3 ⟨19, [s1 0 (.pS sv), s1 1 (.fn fv1 cv1), e51_0 sv, sI 8 (0 : Int)], []⟩ (by kernel_rfl) rfl ?_
 refine withJoin (σ := Unit) (fun s => (⟨19, [], []⟩ : St)) (fun s => VC51_k1 K) (fun s h => ?_) (fun rest1 => ?_)
 ·have h : VC51_k1 K := h
  unfold VC51_k1 at h
  refine thenQ_n ?_
  refine srn 1 ⟨19, [sI 4 (-1 : Int)], []⟩ (by kernel_rfl) rfl ?_
  refine aw_ret ?_
  exact retQ_r (ob := Ts 1 True) _ (by kernel_rfl) (tsI 1 trivial) h
 ·refine aw_block ?_
  refine aw_loop (σ := Int) (fun s => (⟨19, [s1 0 (.pS sv), s1 1 (.fn fv1 cv1), e51_0 sv, sI 8 s], []⟩ : St)) (fun s X => VC51_l1 sv F1 K s X) (s0 := (0 : Int)) (fun v8 X1 h => ?_) h
  have h : VC51_l1 sv F1 K v8 X1 := h
  unfold VC51_l1 at h
  refine srn 1 ⟨19, [s1 0 (.pS sv), s1 1 (.fn fv1 cv1), e51_0 sv, sI 8 v8, sB 9 (decide (v8 < (sv.length : Int)))], []⟩ (by kernel_rfl) rfl ?_
  refine aw_seq ?_
  refine aw_cond (b := (decide (v8 < (sv.length : Int)))) (by kernel_rfl) (fun hb => ?_) (fun hb => ?_)
  ·have h := h.1 hb
   refine aw_skip ?_
   refine thenQ_n ?_
   refine aw_seq ?_
   refine aw_block ?_
   refine sr ?_
   refine rqT 2 ⟨19, [s1 0 (.pS sv), s1 1 (.fn fv1 cv1), sI 5 v8, e51_0 sv, sI 8 v8], []⟩ (by kernel_rfl) ?_
   refine nsr ?_
   obtain ⟨o1, h⟩ := h
   refine rq 5 (ob := (Ts 3 (inIdx v8 sv.length ∧ Ts 1 True))) (st' := (⟨19, [s1 0 (.pS sv), s1 1 (.fn fv1 cv1), sI 5 v8, e51_0 sv, sI 8 v8, s1 11 (.fn fv1 cv1), sI 15 (sv.getD (v8).toNat (0 : Int))], []⟩ : St)) (by kernel_rfl) (tsI 3 ⟨o1, tsI 1 trivial⟩) ?_
   refine lcq (d := 16) [.d tI] (fun ret16v => (⟨19, [s1 0 (.pS sv), s1 1 (.fn fv1 cv1), sI 5 v8, e51_0 sv, sI 8 v8, sB 16 ret16v], []⟩ : St)) (by kernel_rfl) hF1.1 (fun _ => by kernel_rfl) (hF1.2 (sv.getD (v8).toNat (0 : Int)) _ h) (fun ret16v h => ?_)
   refine nn ?_
   refine aw_cond (b := ret16v) (by kernel_rfl) (fun hb => ?_) (fun hb => ?_)
   ·have h := h.1 hb
    refine srn 2 ⟨19, [sI 4 v8], []⟩ (by kernel_rfl) rfl ?_
    refine aw_ret ?_
    refine blockQ_r ?_
    refine thenQ_r ?_
    refine thenQ_r ?_
    refine blockQ_r ?_
    refine thenQ_r ?_
    exact retQ_r (ob := Ts 1 True) _ (by kernel_rfl) (tsI 1 trivial) h
   ·have h := h.2 hb
    refine aw_skip ?_
    refine blockQ_n ?_
    refine thenQ_n ?_
    refine aw_region ?_
    obtain ⟨o1, h⟩ := h
    refine rq 2 (ob := (InR (v8 + (1 : Int)) ∧ Ts 1 True)) (st' := (⟨19, [s1 0 (.pS sv), s1 1 (.fn fv1 cv1), e51_0 sv, sI 8 (v8 + (1 : Int))], []⟩ : St)) (by kernel_rfl) (⟨o1, tsI 1 trivial⟩) ?_
    refine awl_nil ?_
    exact thenQ_n ⟨(v8 + (1 : Int)), rfl, h⟩
  ·have h := h.2 hb
   refine cpr (st' := (⟨19, [], []⟩ : St)) (by kernel_rfl) ?_
   refine aw_exit ?_
   refine thenQ_x ?_
   refine thenQ_x ?_
   refine blockQ_hit ?_
   exact rest1 () h
-- slices.ContainsFunc[[]int,int]
def VC35 (sv : LI) (F1 : Int → (Bool → Prop) → Prop) (K : Bool → Prop) : Prop :=
  VC51 sv F1 (fun (ret7v : Int) => K (decide ((0 : Int) ≤ ret7v)))
set_option maxHeartbeats 4000000 in
theorem link35 (sv : LI) (fv1 : FuncId) (cv1 : List Dat) (F1 : Int → (Bool → Prop) → Prop) (hF1 : FnIs Try.prog fv1 cv1 (fun (x : Int) => [toV1 tI x]) (fun (y : Bool) => [toV1 .bool y]) F1) (K : Bool → Prop) (h : VC35 sv F1 K) : ACalls Try.prog 35 [toV1 (.sl tI) sv, .c (.fn fv1 cv1)] (fun res => ∃ y, res = (fun y => [toV1 .bool y]) y ∧ K y) := by
 refine acalls_of_aw [.bool] [.t 4] Try.func35 rfl rfl rfl ?_
 unfold VC35 at h
 refine sr ?_
 refine rqT 1 ⟨9, [s1 0 (.pS sv), s1 1 (.fn fv1 cv1)], []⟩ (by kernel_rfl) ?_
 refine nsr ?_
 refine rqT 2 ⟨9, [s1 5 (.pS sv), s1 6 (.fn fv1 cv1)], []⟩ (by kernel_rfl) ?_
 refine lcq (d := 7) [.d (.sl tI), .fn] (fun ret7v => (⟨9, [sI 7 ret7v], []⟩ : St)) (by kernel_rfl) Try.call51 (fun _ => by kernel_rfl) (link51 sv fv1 cv1 F1 hF1 _ h) (fun ret7v h => ?_)
 refine rqT 2 ⟨9, [sB 4 (decide ((0 : Int) ≤ ret7v))], []⟩ (by kernel_rfl) ?_
 refine nn ?_
 refine aw_ret ?_
 exact retQ_r (ob := Ts 1 True) _ (by kernel_rfl) (tsI 1 trivial) h
-- coppicer/machine.Word
def VC21 (k : Int) (w : LI) (K : Int → Prop) : Prop :=
  (((decide ((12 : Int) < (w.length : Int))) = true → K (1 : Int)) ∧ ((decide ((12 : Int) < (w.length : Int))) = false → VC35 w (fun (x : Int) (K : Bool → Prop) => VC36 x k K) (fun (ret10v : Bool) => ((ret10v = true → K (2 : Int)) ∧ (ret10v = false → K (0 : Int))))))
set_option maxHeartbeats 4000000 in
theorem link21 (k : Int) (w : LI) (K : Int → Prop) (h : VC21 k w K) : ACalls Try.prog 21 [toV1 tI k, toV1 (.sl tI) w] (fun res => ∃ y, res = (fun y => [toV1 tI y]) y ∧ K y) := by
 refine acalls_of_aw [tI] [.t 4] Try.func21 rfl rfl rfl ?_
 unfold VC21 at h
 refine srn 2 ⟨11, [s1 1 (.pS w), sp 2 2], [hB 2 [.pI k]]⟩ (by kernel_rfl) rfl ?_
 refine aw_seq ?_
 refine srn 3 ⟨11, [s1 1 (.pS w), sp 2 2, sB 7 (decide ((12 : Int) < (w.length : Int)))], [hB 2 [.pI k]]⟩ (by kernel_rfl) rfl ?_
 refine aw_cond (b := (decide ((12 : Int) < (w.length : Int)))) (by kernel_rfl) (fun hb => ?_) (fun hb => ?_)
 ·have h := h.1 hb
  refine srn 1 ⟨11, [sI 4 (1 : Int)], []⟩ (by kernel_rfl) rfl ?_
  refine aw_ret ?_
  refine thenQ_r ?_
  exact retQ_r (ob := Ts 1 True) _ (by kernel_rfl) (tsI 1 trivial) h
 ·have h := h.2 hb
  refine aw_skip ?_
  refine thenQ_n ?_
  refine aw_seq ?_
  refine sr ?_
  refine rqT 1 ⟨11, [sp 2 2, s1 8 (.pS w)], [hB 2 [.pI k]]⟩ (by kernel_rfl) ?_
  refine awl_conv [.freezeB 2 tI] (st' := (⟨11, [s1 2 (.ad tI k), s1 8 (.pS w)], []⟩ : St)) (by kernel_rfl) ?_
  refine rqT 1 ⟨11, [s1 8 (.pS w), s1 9 (.fn 36 [(⟨tI, k⟩ : Dat)])], []⟩ (by kernel_rfl) ?_
  refine lcq (d := 10) [.d (.sl tI), .fn] (fun ret10v => (⟨11, [sB 10 ret10v], []⟩ : St)) (by kernel_rfl) Try.call35 (fun _ => by kernel_rfl) (link35 w 36 [(⟨tI, k⟩ : Dat)] (fun (x : Int) (K : Bool → Prop) => VC36 x k K) ⟨Try.call36, fun x K h => link36 x k K h⟩ _ h) (fun ret10v h => ?_)
  refine nn ?_
  refine aw_cond (b := ret10v) (by kernel_rfl) (fun hb => ?_) (fun hb => ?_)
  ·have h := h.1 hb
   refine srn 1 ⟨11, [sI 4 (2 : Int)], []⟩ (by kernel_rfl) rfl ?_
   refine aw_ret ?_
   refine thenQ_r ?_
   exact retQ_r (ob := Ts 1 True) _ (by kernel_rfl) (tsI 1 trivial) h
  ·have h := h.2 hb
   refine aw_skip ?_
   refine thenQ_n ?_
   refine srn 1 ⟨11, [sI 4 (0 : Int)], []⟩ (by kernel_rfl) rfl ?_
   refine aw_ret ?_
   exact retQ_r (ob := Ts 1 True) _ (by kernel_rfl) (tsI 1 trivial) h
-- coppicer/machine.Has
def VC22 (setv : Int) (n : Int) (K : Bool → Prop) : Prop :=
  ((0 ≤ setv ∧ 0 ≤ n) ∧ K (decide ((bAnd .u32 (bShr .u32 setv n) (1 : Int)) = (1 : Int))))
set_option maxHeartbeats 4000000 in
theorem link22 (setv : Int) (n : Int) (K : Bool → Prop) (h : VC22 setv n K) : ACalls Try.prog 22 [toV1 (.int .u32) setv, toV1 tI n] (fun res => ∃ y, res = (fun y => [toV1 .bool y]) y ∧ K y) := by
 refine acalls_of_aw [.bool] [.t 4] Try.func22 rfl rfl rfl ?_
 unfold VC22 at h
 refine sr ?_
 refine rqT 1 ⟨10, [s1 0 (.pW setv), sI 1 n], []⟩ (by kernel_rfl) ?_
 refine nsr ?_
 obtain ⟨o1, h⟩ := h
 refine rq 6 (ob := (Ts 2 ((0 ≤ setv ∧ 0 ≤ n) ∧ Ts 3 True))) (st' := (⟨10, [sB 4 (decide ((bAnd .u32 (bShr .u32 setv n) (1 : Int)) = (1 : Int)))], []⟩ : St)) (by kernel_rfl) (tsI 2 ⟨o1, tsI 3 trivial⟩) ?_
 refine nn ?_
 refine aw_ret ?_
 exact retQ_r (ob := Ts 1 True) _ (by kernel_rfl) (tsI 1 trivial) h
abbrev e10_0 (m : (Int × (Int × (LL × (Int × Int))))) : Nat × Path × Con := hB 2 [.pI m.1, .pI m.2.1, .p (.sl (.sl tI)) m.2.2.1, .pI m.2.2.2.1, .pW m.2.2.2.2]
abbrev e10_1 (w : LI) : Nat × Path × AV := sI 27 (w.length : Int)
-- coppicer/machine.Run
def VC10_k1 (m : (Int × (Int × (LL × (Int × Int))))) (K : Int × Bool × Int → Prop) (atv : Int) : Prop :=
  VC22 m.2.2.2.2 atv (fun (ret45v : Bool) => K (atv, ret45v, (0 : Int)))
def VC10_l1 (m : (Int × (Int × (LL × (Int × Int))))) (w : LI) (K : Int × Bool × Int → Prop) (atv : Int) (v28 : Int) (X1 : Int × Int → Prop) : Prop :=
  (((decide (v28 < (w.length : Int))) = true → (inIdx v28 w.length ∧ (inIdx atv m.2.2.1.length ∧ inIdx (w.getD (v28).toNat (0 : Int)) (m.2.2.1.getD (atv).toNat ([] : LI)).length ∧ (InR (v28 + (1 : Int)) ∧ X1 (((m.2.2.1.getD (atv).toNat ([] : LI)).getD ((w.getD (v28).toNat (0 : Int))).toNat (0 : Int)), (v28 + (1 : Int))))))) ∧ ((decide (v28 < (w.length : Int))) = false → VC10_k1 m K atv))
def VC10 (m : (Int × (Int × (LL × (Int × Int))))) (w : LI) (K : Int × Bool × Int → Prop) : Prop :=
  VC20 m (fun (ret13v : Int) => (((!decide (ret13v = (0 : Int))) = true → K ((0 : Int), false, ret13v)) ∧ ((!decide (ret13v = (0 : Int))) = false → VC21 m.2.1 w (fun (ret20v : Int) => (((!decide (ret20v = (0 : Int))) = true → K ((0 : Int), false, ret20v)) ∧ ((!decide (ret20v = (0 : Int))) = false → Loop (σ := Int × Int) (fun s X => VC10_l1 m w K s.1 s.2 X) (m.2.2.2.1, (0 : Int))))))))
set_option maxHeartbeats 4000000 in
theorem link10 (m : (Int × (Int × (LL × (Int × Int))))) (w : LI) (K : Int × Bool × Int → Prop) (h : VC10 m w K) : ACalls Try.prog 10 [toV1 (.pr tI (.pr tI (.pr (.sl (.sl tI)) (.pr tI (.int .u32))))) m, toV1 (.sl tI) w] (fun res => ∃ y, res = (fun y => [toV1 tI y.1, toV1 .bool y.2.1, toV1 tI y.2.2]) y ∧ K y) := by
 refine acalls_of_aw [tI, .bool, tI] [.t 4, .t 5, .t 6] Try.func10 rfl rfl rfl ?_
 unfold VC10 at h
 refine srn 4 ⟨46, [s1 1 (.pS w), sp 2 2], [e10_0 m]⟩ (by kernel_rfl) rfl ?_
 refine aw_seq ?_
 refine sr ?_
 refine rqT 1 ⟨46, [s1 1 (.pS w), sp 2 2, sA 12 [.pI m.1, .pI m.2.1, .p (.sl (.sl tI)) m.2.2.1, .pI m.2.2.2.1, .pW m.2.2.2.2]], [e10_0 m]⟩ (by kernel_rfl) ?_
 refine lcq (d := 13) [.d (.pr tI (.pr tI (.pr (.sl (.sl tI)) (.pr tI (.int .u32)))))] (fun ret13v => (⟨46, [s1 1 (.pS w), sp 2 2, sI 13 ret13v], [e10_0 m]⟩ : St)) (by kernel_rfl) Try.call20 (fun _ => by kernel_rfl) (link20 m _ h) (fun ret13v h => ?_)
 refine rqT 1 ⟨46, [s1 1 (.pS w), sp 2 2, sI 7 ret13v], [e10_0 m]⟩ (by kernel_rfl) ?_
 refine nsr ?_
 refine rqT 2 ⟨46, [s1 1 (.pS w), sp 2 2, sI 7 ret13v, sB 15 (!decide (ret13v = (0 : Int)))], [e10_0 m]⟩ (by kernel_rfl) ?_
 refine nn ?_
 refine aw_cond (b := (!decide (ret13v = (0 : Int)))) (by kernel_rfl) (fun hb => ?_) (fun hb => ?_)
 ·have h := h.1 hb
  refine srn 4 ⟨46, [sI 4 (0 : Int), sB 5 false, sI 6 ret13v], []⟩ (by kernel_rfl) rfl ?_
  refine aw_ret ?_
  refine thenQ_r ?_
  exact retQ_r (ob := Ts 3 True) _ (by kernel_rfl) (tsI 3 trivial) h
 ·have h := h.2 hb
  refine aw_skip ?_
  refine thenQ_n ?_
  refine aw_seq ?_
  refine sr ?_
  refine rqT 3 ⟨46, [s1 1 (.pS w), sp 2 2, sI 18 m.2.1, s1 19 (.pS w)], [e10_0 m]⟩ (by kernel_rfl) ?_
  refine lcq (d := 20) [.d tI, .d (.sl tI)] (fun ret20v => (⟨46, [s1 1 (.pS w), sp 2 2, sI 20 ret20v], [e10_0 m]⟩ : St)) (by kernel_rfl) Try.call21 (fun _ => by kernel_rfl) (link21 m.2.1 w _ h) (fun ret20v h => ?_)
  refine rqT 1 ⟨46, [s1 1 (.pS w), sp 2 2, sI 8 ret20v], [e10_0 m]⟩ (by kernel_rfl) ?_
  refine nsr ?_
  refine rqT 2 ⟨46, [s1 1 (.pS w), sp 2 2, sI 8 ret20v, sB 22 (!decide (ret20v = (0 : Int)))], [e10_0 m]⟩ (by kernel_rfl) ?_
  refine nn ?_
  refine aw_cond (b := (!decide (ret20v = (0 : Int)))) (by kernel_rfl) (fun hb => ?_) (fun hb => ?_)
  ·have h := h.1 hb
   refine srn 4 ⟨46, [sI 4 (0 : Int), sB 5 false, sI 6 ret20v], []⟩ (by kernel_rfl) rfl ?_
   refine aw_ret ?_
   refine thenQ_r ?_
   exact retQ_r (ob := Ts 3 True) _ (by kernel_rfl) (tsI 3 trivial) h
  ·have h := h.2 hb
   refine aw_skip ?_
   refine thenQ_n ?_
   refine srn 3 ⟨46, [s1 1 (.pS w), sp 2 2, sI 9 m.2.2.2.1], [e10_0 m]⟩ (by kernel_rfl) rfl ?_
   refine aw_seq ?_
   refine srn 3 ⟨46, [sp 2 2, sI 9 m.2.2.2.1, s1 26 (.pS w), e10_1 w, sI 28 (0 : Int)], [e10_0 m]⟩ (by kernel_rfl) rfl ?_
   refine withJoin (σ := Int) (fun s => (⟨46, [sp 2 2, sI 9 s], [e10_0 m]⟩ : St)) (fun s => VC10_k1 m K s) (fun atv h => ?_) (fun rest1 => ?_)
   ·have h : VC10_k1 m K atv := h
    unfold VC10_k1 at h
    refine thenQ_n ?_
    refine sr ?_
    refine rqT 4 ⟨46, [sI 41 atv, s1 43 (.pW m.2.2.2.2), sI 44 atv], []⟩ (by kernel_rfl) ?_
    refine lcq (d := 45) [.d (.int .u32), .d tI] (fun ret45v => (⟨46, [sI 41 atv, sB 45 ret45v], []⟩ : St)) (by kernel_rfl) Try.call22 (fun _ => by kernel_rfl) (link22 m.2.2.2.2 atv _ h) (fun ret45v h => ?_)
    refine rqT 3 ⟨46, [sI 4 atv, sB 5 ret45v, sI 6 (0 : Int)], []⟩ (by kernel_rfl) ?_
    refine nn ?_
    refine aw_ret ?_
    exact retQ_r (ob := Ts 3 True) _ (by kernel_rfl) (tsI 3 trivial) h
   ·refine aw_block ?_
    refine aw_loop (σ := Int × Int) (fun s => (⟨46, [sp 2 2, sI 9 s.1, s1 26 (.pS w), e10_1 w, sI 28 s.2], [e10_0 m]⟩ : St)) (fun s X => VC10_l1 m w K s.1 s.2 X) (s0 := (m.2.2.2.1, (0 : Int))) (fun s X1 h => ?_) h
    obtain ⟨atv, v28⟩ := s
    have h : VC10_l1 m w K atv v28 X1 := h
    unfold VC10_l1 at h
    refine srn 1 ⟨46, [sp 2 2, sI 9 atv, s1 26 (.pS w), e10_1 w, sI 28 v28, sB 29 (decide (v28 < (w.length : Int)))], [e10_0 m]⟩ (by kernel_rfl) rfl ?_
    refine aw_seq ?_
    refine aw_cond (b := (decide (v28 < (w.length : Int)))) (by kernel_rfl) (fun hb => ?_) (fun hb => ?_)
    ·have h := h.1 hb
     refine aw_skip ?_
     refine thenQ_n ?_
     refine aw_seq ?_
     refine aw_block ?_
     refine sr ?_
     obtain ⟨o1, h⟩ := h
     refine rq 3 (ob := (inIdx v28 w.length ∧ Ts 2 True)) (st' := (⟨46, [sp 2 2, sI 9 atv, sI 11 (w.getD (v28).toNat (0 : Int)), s1 26 (.pS w), e10_1 w, sI 28 v28], [e10_0 m]⟩ : St)) (by kernel_rfl) (⟨o1, tsI 2 trivial⟩) ?_
     refine nn ?_
     refine aw_region ?_
     obtain ⟨o1, o2, h⟩ := h
     refine rq 9 (ob := (Ts 3 (inIdx atv m.2.2.1.length ∧ Ts 2 (inIdx (w.getD (v28).toNat (0 : Int)) (m.2.2.1.getD (atv).toNat ([] : LI)).length ∧ Ts 2 True)))) (st' := (⟨46, [sp 2 2, sI 9 ((m.2.2.1.getD (atv).toNat ([] : LI)).getD ((w.getD (v28).toNat (0 : Int))).toNat (0 : Int)), s1 26 (.pS w), e10_1 w, sI 28 v28], [e10_0 m]⟩ : St)) (by kernel_rfl) (tsI 3 (⟨o1, tsI 2 ⟨o2, tsI 2 trivial⟩⟩)) ?_
     refine awl_nil ?_
     refine blockQ_n ?_
     refine thenQ_n ?_
     refine aw_region ?_
     obtain ⟨o1, h⟩ := h
     refine rq 2 (ob := (InR (v28 + (1 : Int)) ∧ Ts 1 True)) (st' := (⟨46, [sp 2 2, sI 9 ((m.2.2.1.getD (atv).toNat ([] : LI)).getD ((w.getD (v28).toNat (0 : Int))).toNat (0 : Int)), s1 26 (.pS w), e10_1 w, sI 28 (v28 + (1 : Int))], [e10_0 m]⟩ : St)) (by kernel_rfl) (⟨o1, tsI 1 trivial⟩) ?_
     refine awl_nil ?_
     exact thenQ_n ⟨(((m.2.2.1.getD (atv).toNat ([] : LI)).getD ((w.getD (v28).toNat (0 : Int))).toNat (0 : Int)), (v28 + (1 : Int))), rfl, h⟩
    ·have h := h.2 hb
     refine cpr (st' := (⟨46, [sp 2 2, sI 9 atv], [e10_0 m]⟩ : St)) (by kernel_rfl) ?_
     refine aw_exit ?_
     refine thenQ_x ?_
     refine thenQ_x ?_
     refine blockQ_hit ?_
     exact rest1 atv h
abbrev e23_0 (m : (Int × (Int × (LL × (Int × Int))))) : Nat × Path × Con := hB 1 [.pI m.1, .pI m.2.1, .p (.sl (.sl tI)) m.2.2.1, .pI m.2.2.2.1, .pW m.2.2.2.2]
abbrev e23_1 (m : (Int × (Int × (LL × (Int × Int))))) : Nat × Path × AV := s1 47 (.p (.sl (.sl tI)) m.2.2.1)
abbrev e23_2 (m : (Int × (Int × (LL × (Int × Int))))) : Nat × Path × AV := sI 48 (m.2.2.1.length : Int)
abbrev e23_3 (m : (Int × (Int × (LL × (Int × Int))))) (v49 : Int) : Nat × Path × AV := sI 54 ((m.2.2.1.getD (v49).toNat ([] : LI)).length : Int)
abbrev e23_4 (m : (Int × (Int × (LL × (Int × Int))))) (v49 : Int) : Nat × Path × AV := s1 53 (.pS (m.2.2.1.getD (v49).toNat ([] : LI)))
abbrev e23_5 (m : (Int × (Int × (LL × (Int × Int))))) : Nat × Path × AV := s1 34 (.p (.sl (.sl tI)) m.2.2.1)
abbrev e23_6 (m : (Int × (Int × (LL × (Int × Int))))) : Nat × Path × AV := sI 35 (m.2.2.1.length : Int)
-- coppicer/coppicerref.MachineCheck
def VC23_k2 (m : (Int × (Int × (LL × (Int × Int))))) (K : Int → Prop) : Prop :=
  ((((decide (m.2.2.2.1 < (0 : Int))) || (decide (m.1 ≤ m.2.2.2.1))) = true → K (2 : Int)) ∧ (((decide (m.2.2.2.1 < (0 : Int))) || (decide (m.1 ≤ m.2.2.2.1))) = false → (0 ≤ (IntKind.wrap .u64 m.1) ∧ (((decide ((bShl .u32 (1 : Int) (IntKind.wrap .u64 m.1)) ≤ m.2.2.2.2)) = true → K (4 : Int)) ∧ ((decide ((bShl .u32 (1 : Int) (IntKind.wrap .u64 m.1)) ≤ m.2.2.2.2)) = false → K (0 : Int))))))
def VC23_k3 (v49 : Int) (X1 : Int → Prop) : Prop :=
  (InR (v49 + (1 : Int)) ∧ X1 (v49 + (1 : Int)))
def VC23_l2 (m : (Int × (Int × (LL × (Int × Int))))) (K : Int → Prop) (v49 : Int) (X1 : Int → Prop) (v55 : Int) (X2 : Int → Prop) : Prop :=
  (((decide (v55 < ((m.2.2.1.getD (v49).toNat ([] : LI)).length : Int))) = true → (inIdx v55 (m.2.2.1.getD (v49).toNat ([] : LI)).length ∧ ((((decide (((m.2.2.1.getD (v49).toNat ([] : LI)).getD (v55).toNat (0 : Int)) < (0 : Int))) || (decide (m.1 ≤ ((m.2.2.1.getD (v49).toNat ([] : LI)).getD (v55).toNat (0 : Int))))) = true → K (2 : Int)) ∧ (((decide (((m.2.2.1.getD (v49).toNat ([] : LI)).getD (v55).toNat (0 : Int)) < (0 : Int))) || (decide (m.1 ≤ ((m.2.2.1.getD (v49).toNat ([] : LI)).getD (v55).toNat (0 : Int))))) = false → (InR (v55 + (1 : Int)) ∧ X2 (v55 + (1 : Int))))))) ∧ ((decide (v55 < ((m.2.2.1.getD (v49).toNat ([] : LI)).length : Int))) = false → VC23_k3 v49 X1))
def VC23_l1 (m : (Int × (Int × (LL × (Int × Int))))) (K : Int → Prop) (v49 : Int) (X1 : Int → Prop) : Prop :=
  (((decide (v49 < (m.2.2.1.length : Int))) = true → (inIdx v49 m.2.2.1.length ∧ Loop (σ := Int) (fun s X => VC23_l2 m K v49 X1 s X) (0 : Int))) ∧ ((decide (v49 < (m.2.2.1.length : Int))) = false → VC23_k2 m K))
def VC23_k1 (m : (Int × (Int × (LL × (Int × Int))))) (K : Int → Prop) : Prop :=
  Loop (σ := Int) (fun s X => VC23_l1 m K s X) (0 : Int)
def VC23_l3 (m : (Int × (Int × (LL × (Int × Int))))) (K : Int → Prop) (v36 : Int) (X3 : Int → Prop) : Prop :=
  (((decide (v36 < (m.2.2.1.length : Int))) = true → (inIdx v36 m.2.2.1.length ∧ (((!decide (((m.2.2.1.getD (v36).toNat ([] : LI)).length : Int) = m.2.1)) = true → K (3 : Int)) ∧ ((!decide (((m.2.2.1.getD (v36).toNat ([] : LI)).length : Int) = m.2.1)) = false → (InR (v36 + (1 : Int)) ∧ X3 (v36 + (1 : Int))))))) ∧ ((decide (v36 < (m.2.2.1.length : Int))) = false → VC23_k1 m K))
def VC23 (m : (Int × (Int × (LL × (Int × Int))))) (K : Int → Prop) : Prop :=
  ((((((decide (m.1 < (1 : Int))) || (decide ((7 : Int) < m.1))) || (decide (m.2.1 < (1 : Int)))) || (decide ((3 : Int) < m.2.1))) = true → K (1 : Int)) ∧ (((((decide (m.1 < (1 : Int))) || (decide ((7 : Int) < m.1))) || (decide (m.2.1 < (1 : Int)))) || (decide ((3 : Int) < m.2.1))) = false → (((!decide ((m.2.2.1.length : Int) = m.1)) = true → K (3 : Int)) ∧ ((!decide ((m.2.2.1.length : Int) = m.1)) = false → Loop (σ := Int) (fun s X => VC23_l3 m K s X) (0 : Int)))))
set_option maxHeartbeats 4000000 in
theorem link23 (m : (Int × (Int × (LL × (Int × Int))))) (K : Int → Prop) (h : VC23 m K) : ACalls Try.prog 23 [toV1 (.pr tI (.pr tI (.pr (.sl (.sl tI)) (.pr tI (.int .u32))))) m] (fun res => ∃ y, res = (fun y => [toV1 tI y]) y ∧ K y) := by
 refine acalls_of_aw [tI] [.t 2] Try.func23 rfl rfl rfl ?_
 unfold VC23 at h
 refine srn 2 ⟨86, [sp 1 1], [e23_0 m]⟩ (by kernel_rfl) rfl ?_
 refine aw_seq ?_
 refine sr ?_
 refine rq 18 (ob := (Ts 4 (Ti 3 ((decide (m.1 < (1 : Int))) = false → True) (Ts 2 (Ti 3 (((decide (m.1 < (1 : Int))) || (decide ((7 : Int) < m.1))) = false → True) (Ts 2 (Ti 3 ((((decide (m.1 < (1 : Int))) || (decide ((7 : Int) < m.1))) || (decide (m.2.1 < (1 : Int)))) = false → True) (Ts 1 True)))))))) (st' := (⟨86, [sp 1 1, sB 26 ((((decide (m.1 < (1 : Int))) || (decide ((7 : Int) < m.1))) || (decide (m.2.1 < (1 : Int)))) || (decide ((3 : Int) < m.2.1)))], [e23_0 m]⟩ : St)) (by kernel_rfl) (tsI 4 (tiI 3 (fun _ => trivial) (tsI 2 (tiI 3 (fun _ => trivial) (tsI 2 (tiI 3 (fun _ => trivial) (tsI 1 trivial))))))) ?_
 refine nn ?_
 refine aw_cond (b := ((((decide (m.1 < (1 : Int))) || (decide ((7 : Int) < m.1))) || (decide (m.2.1 < (1 : Int)))) || (decide ((3 : Int) < m.2.1)))) (by kernel_rfl) (fun hb => ?_) (fun hb => ?_)
 ·have h := h.1 hb
  refine srn 1 ⟨86, [sI 2 (1 : Int)], []⟩ (by kernel_rfl) rfl ?_
  refine aw_ret ?_
  refine thenQ_r ?_
  exact retQ_r (ob := Ts 1 True) _ (by kernel_rfl) (tsI 1 trivial) h
 ·have h := h.2 hb
  refine aw_skip ?_
  refine thenQ_n ?_
  refine aw_seq ?_
  refine srn 6 ⟨86, [sp 1 1, sB 32 (!decide ((m.2.2.1.length : Int) = m.1))], [e23_0 m]⟩ (by kernel_rfl) rfl ?_
  refine aw_cond (b := (!decide ((m.2.2.1.length : Int) = m.1))) (by kernel_rfl) (fun hb => ?_) (fun hb => ?_)
  ·have h := h.1 hb
   refine srn 1 ⟨86, [sI 2 (3 : Int)], []⟩ (by kernel_rfl) rfl ?_
   refine aw_ret ?_
   refine thenQ_r ?_
   exact retQ_r (ob := Ts 1 True) _ (by kernel_rfl) (tsI 1 trivial) h
  ·have h := h.2 hb
   refine aw_skip ?_
   refine thenQ_n ?_
   refine aw_seq ?_
   refine srn 4 ⟨86, [sp 1 1, e23_5 m, e23_6 m, sI 36 (0 : Int)], [e23_0 m]⟩ (by kernel_rfl) rfl ?_
   refine withJoin (σ := Unit) (fun s => (⟨86, [sp 1 1], [e23_0 m]⟩ : St)) (fun s => VC23_k1 m K) (fun s h => ?_) (fun rest3 => ?_)
   ·have h : VC23_k1 m K := h
    unfold VC23_k1 at h
    refine thenQ_n ?_
    refine aw_seq ?_
    refine srn 4 ⟨86, [sp 1 1, e23_1 m, e23_2 m, sI 49 (0 : Int)], [e23_0 m]⟩ (by kernel_rfl) rfl ?_
    refine withJoin (σ := Unit) (fun s => (⟨86, [sp 1 1], [e23_0 m]⟩ : St)) (fun s => VC23_k2 m K) (fun s h => ?_) (fun rest1 => ?_)
    ·have h : VC23_k2 m K := h
     unfold VC23_k2 at h
     refine thenQ_n ?_
     refine aw_seq ?_
     refine sr ?_
     refine rq 10 (ob := (Ts 4 (Ti 5 ((decide (m.2.2.2.1 < (0 : Int))) = false → True) (Ts 1 True)))) (st' := (⟨86, [sp 1 1, sB 78 ((decide (m.2.2.2.1 < (0 : Int))) || (decide (m.1 ≤ m.2.2.2.1)))], [e23_0 m]⟩ : St)) (by kernel_rfl) (tsI 4 (tiI 5 (fun _ => trivial) (tsI 1 trivial))) ?_
     refine nn ?_
     refine aw_cond (b := ((decide (m.2.2.2.1 < (0 : Int))) || (decide (m.1 ≤ m.2.2.2.1)))) (by kernel_rfl) (fun hb => ?_) (fun hb => ?_)
     ·have h := h.1 hb
      refine srn 1 ⟨86, [sI 2 (2 : Int)], []⟩ (by kernel_rfl) rfl ?_
      refine aw_ret ?_
      refine thenQ_r ?_
      exact retQ_r (ob := Ts 1 True) _ (by kernel_rfl) (tsI 1 trivial) h
     ·have h := h.2 hb
      refine aw_skip ?_
      refine thenQ_n ?_
      refine aw_seq ?_
      refine sr ?_
      obtain ⟨o1, h⟩ := h
      refine rq 7 (ob := (Ts 5 (0 ≤ (IntKind.wrap .u64 m.1) ∧ Ts 1 True))) (st' := (⟨86, [sB 85 (decide ((bShl .u32 (1 : Int) (IntKind.wrap .u64 m.1)) ≤ m.2.2.2.2))], []⟩ : St)) (by kernel_rfl) (tsI 5 ⟨o1, tsI 1 trivial⟩) ?_
      refine nn ?_
      refine aw_cond (b := (decide ((bShl .u32 (1 : Int) (IntKind.wrap .u64 m.1)) ≤ m.2.2.2.2))) (by kernel_rfl) (fun hb => ?_) (fun hb => ?_)
      ·have h := h.1 hb
       refine srn 1 ⟨86, [sI 2 (4 : Int)], []⟩ (by kernel_rfl) rfl ?_
       refine aw_ret ?_
       refine thenQ_r ?_
       exact retQ_r (ob := Ts 1 True) _ (by kernel_rfl) (tsI 1 trivial) h
      ·have h := h.2 hb
       refine aw_skip ?_
       refine thenQ_n ?_
       refine srn 1 ⟨86, [sI 2 (0 : Int)], []⟩ (by kernel_rfl) rfl ?_
       refine aw_ret ?_
       exact retQ_r (ob := Ts 1 True) _ (by kernel_rfl) (tsI 1 trivial) h
    ·refine aw_block ?_
     refine aw_loop (σ := Int) (fun s => (⟨86, [sp 1 1, e23_1 m, e23_2 m, sI 49 s], [e23_0 m]⟩ : St)) (fun s X => VC23_l1 m K s X) (s0 := (0 : Int)) (fun v49 X1 h => ?_) h
     have h : VC23_l1 m K v49 X1 := h
     unfold VC23_l1 at h
     refine srn 1 ⟨86, [sp 1 1, e23_1 m, e23_2 m, sI 49 v49, sB 50 (decide (v49 < (m.2.2.1.length : Int)))], [e23_0 m]⟩ (by kernel_rfl) rfl ?_
     refine aw_seq ?_
     refine aw_cond (b := (decide (v49 < (m.2.2.1.length : Int)))) (by kernel_rfl) (fun hb => ?_) (fun hb => ?_)
     ·have h := h.1 hb
      refine aw_skip ?_
      refine thenQ_n ?_
      refine aw_seq ?_
      refine aw_block ?_
      refine sr ?_
      obtain ⟨o1, h⟩ := h
      refine rq 3 (ob := (inIdx v49 m.2.2.1.length ∧ Ts 2 True)) (st' := (⟨86, [sp 1 1, s1 6 (.pS (m.2.2.1.getD (v49).toNat ([] : LI))), e23_1 m, e23_2 m, sI 49 v49], [e23_0 m]⟩ : St)) (by kernel_rfl) (⟨o1, tsI 2 trivial⟩) ?_
      refine nsr ?_
      refine rqT 3 ⟨86, [sp 1 1, e23_1 m, e23_2 m, sI 49 v49, e23_4 m v49, e23_3 m v49, sI 55 (0 : Int)], [e23_0 m]⟩ (by kernel_rfl) ?_
      refine nn ?_
      refine withJoin (σ := Unit) (fun s => (⟨86, [sp 1 1, e23_1 m, e23_2 m, sI 49 v49], [e23_0 m]⟩ : St)) (fun s => VC23_k3 v49 X1) (fun s h => ?_) (fun rest2 => ?_)
      ·have h : VC23_k3 v49 X1 := h
       unfold VC23_k3 at h
       refine blockQ_n ?_
       refine thenQ_n ?_
       refine aw_region ?_
       obtain ⟨o1, h⟩ := h
       refine rq 2 (ob := (InR (v49 + (1 : Int)) ∧ Ts 1 True)) (st' := (⟨86, [sp 1 1, e23_1 m, e23_2 m, sI 49 (v49 + (1 : Int))], [e23_0 m]⟩ : St)) (by kernel_rfl) (⟨o1, tsI 1 trivial⟩) ?_
       refine awl_nil ?_
       exact thenQ_n ⟨(v49 + (1 : Int)), rfl, h⟩
      ·refine aw_block ?_
       refine aw_loop (σ := Int) (fun s => (⟨86, [sp 1 1, e23_1 m, e23_2 m, sI 49 v49, e23_4 m v49, e23_3 m v49, sI 55 s], [e23_0 m]⟩ : St)) (fun s X => VC23_l2 m K v49 X1 s X) (s0 := (0 : Int)) (fun v55 X2 h => ?_) h
       have h : VC23_l2 m K v49 X1 v55 X2 := h
       unfold VC23_l2 at h
       refine srn 1 ⟨86, [sp 1 1, e23_1 m, e23_2 m, sI 49 v49, e23_4 m v49, e23_3 m v49, sI 55 v55, sB 56 (decide (v55 < ((m.2.2.1.getD (v49).toNat ([] : LI)).length : Int)))], [e23_0 m]⟩ (by kernel_rfl) rfl ?_
       refine aw_seq ?_
       refine aw_cond (b := (decide (v55 < ((m.2.2.1.getD (v49).toNat ([] : LI)).length : Int)))) (by kernel_rfl) (fun hb => ?_) (fun hb => ?_)
       ·have h := h.1 hb
        refine aw_skip ?_
        refine thenQ_n ?_
        refine aw_seq ?_
        refine aw_block ?_
        refine sr ?_
        obtain ⟨o1, h⟩ := h
        refine rq 3 (ob := (inIdx v55 (m.2.2.1.getD (v49).toNat ([] : LI)).length ∧ Ts 2 True)) (st' := (⟨86, [sp 1 1, sI 8 ((m.2.2.1.getD (v49).toNat ([] : LI)).getD (v55).toNat (0 : Int)), e23_1 m, e23_2 m, sI 49 v49, e23_4 m v49, e23_3 m v49, sI 55 v55], [e23_0 m]⟩ : St)) (by kernel_rfl) (⟨o1, tsI 2 trivial⟩) ?_
        refine nsr ?_
        refine rq 8 (ob := (Ts 3 (Ti 4 ((decide (((m.2.2.1.getD (v49).toNat ([] : LI)).getD (v55).toNat (0 : Int)) < (0 : Int))) = false → True) (Ts 1 True)))) (st' := (⟨86, [sp 1 1, e23_1 m, e23_2 m, sI 49 v49, e23_4 m v49, e23_3 m v49, sI 55 v55, sB 66 ((decide (((m.2.2.1.getD (v49).toNat ([] : LI)).getD (v55).toNat (0 : Int)) < (0 : Int))) || (decide (m.1 ≤ ((m.2.2.1.getD (v49).toNat ([] : LI)).getD (v55).toNat (0 : Int)))))], [e23_0 m]⟩ : St)) (by kernel_rfl) (tsI 3 (tiI 4 (fun _ => trivial) (tsI 1 trivial))) ?_
        refine nn ?_
        refine aw_cond (b := ((decide (((m.2.2.1.getD (v49).toNat ([] : LI)).getD (v55).toNat (0 : Int)) < (0 : Int))) || (decide (m.1 ≤ ((m.2.2.1.getD (v49).toNat ([] : LI)).getD (v55).toNat (0 : Int)))))) (by kernel_rfl) (fun hb => ?_) (fun hb => ?_)
        ·have h := h.1 hb
         refine srn 1 ⟨86, [sI 2 (2 : Int)], []⟩ (by kernel_rfl) rfl ?_
         refine aw_ret ?_
         refine blockQ_r ?_
         refine thenQ_r ?_
         refine thenQ_r ?_
         refine blockQ_r ?_
         refine blockQ_r ?_
         refine thenQ_r ?_
         refine thenQ_r ?_
         refine blockQ_r ?_
         refine thenQ_r ?_
         exact retQ_r (ob := Ts 1 True) _ (by kernel_rfl) (tsI 1 trivial) h
        ·have h := h.2 hb
         refine aw_skip ?_
         refine blockQ_n ?_
         refine thenQ_n ?_
         refine aw_region ?_
         obtain ⟨o1, h⟩ := h
         refine rq 2 (ob := (InR (v55 + (1 : Int)) ∧ Ts 1 True)) (st' := (⟨86, [sp 1 1, e23_1 m, e23_2 m, sI 49 v49, e23_4 m v49, e23_3 m v49, sI 55 (v55 + (1 : Int))], [e23_0 m]⟩ : St)) (by kernel_rfl) (⟨o1, tsI 1 trivial⟩) ?_
         refine awl_nil ?_
         exact thenQ_n ⟨(v55 + (1 : Int)), rfl, h⟩
       ·have h := h.2 hb
        refine cpr (st' := (⟨86, [sp 1 1, e23_1 m, e23_2 m, sI 49 v49], [e23_0 m]⟩ : St)) (by kernel_rfl) ?_
        refine aw_exit ?_
        refine thenQ_x ?_
        refine thenQ_x ?_
        refine blockQ_hit ?_
        exact rest2 () h
     ·have h := h.2 hb
      refine cpr (st' := (⟨86, [sp 1 1], [e23_0 m]⟩ : St)) (by kernel_rfl) ?_
      refine aw_exit ?_
      refine thenQ_x ?_
      refine thenQ_x ?_
      refine blockQ_hit ?_
      exact rest1 () h
   ·refine aw_block ?_
    refine aw_loop (σ := Int) (fun s => (⟨86, [sp 1 1, e23_5 m, e23_6 m, sI 36 s], [e23_0 m]⟩ : St)) (fun s X => VC23_l3 m K s X) (s0 := (0 : Int)) (fun v36 X3 h => ?_) h
    have h : VC23_l3 m K v36 X3 := h
    unfold VC23_l3 at h
    refine srn 1 ⟨86, [sp 1 1, e23_5 m, e23_6 m, sI 36 v36, sB 37 (decide (v36 < (m.2.2.1.length : Int)))], [e23_0 m]⟩ (by kernel_rfl) rfl ?_
    refine aw_seq ?_
    refine aw_cond (b := (decide (v36 < (m.2.2.1.length : Int)))) (by kernel_rfl) (fun hb => ?_) (fun hb => ?_)
    ·have h := h.1 hb
     refine aw_skip ?_
     refine thenQ_n ?_
     refine aw_seq ?_
     refine aw_block ?_
     refine sr ?_
     obtain ⟨o1, h⟩ := h
     refine rq 3 (ob := (inIdx v36 m.2.2.1.length ∧ Ts 2 True)) (st' := (⟨86, [sp 1 1, s1 4 (.pS (m.2.2.1.getD (v36).toNat ([] : LI))), e23_5 m, e23_6 m, sI 36 v36], [e23_0 m]⟩ : St)) (by kernel_rfl) (⟨o1, tsI 2 trivial⟩) ?_
     refine nsr ?_
     refine rqT 5 ⟨86, [sp 1 1, e23_5 m, e23_6 m, sI 36 v36, sB 44 (!decide (((m.2.2.1.getD (v36).toNat ([] : LI)).length : Int) = m.2.1))], [e23_0 m]⟩ (by kernel_rfl) ?_
     refine nn ?_
     refine aw_cond (b := (!decide (((m.2.2.1.getD (v36).toNat ([] : LI)).length : Int) = m.2.1))) (by kernel_rfl) (fun hb => ?_) (fun hb => ?_)
     ·have h := h.1 hb
      refine srn 1 ⟨86, [sI 2 (3 : Int)], []⟩ (by kernel_rfl) rfl ?_
      refine aw_ret ?_
      refine blockQ_r ?_
      refine thenQ_r ?_
      refine thenQ_r ?_
      refine blockQ_r ?_
      refine thenQ_r ?_
      exact retQ_r (ob := Ts 1 True) _ (by kernel_rfl) (tsI 1 trivial) h
     ·have h := h.2 hb
      refine aw_skip ?_
      refine blockQ_n ?_
      refine thenQ_n ?_
      refine aw_region ?_
      obtain ⟨o1, h⟩ := h
      refine rq 2 (ob := (InR (v36 + (1 : Int)) ∧ Ts 1 True)) (st' := (⟨86, [sp 1 1, e23_5 m, e23_6 m, sI 36 (v36 + (1 : Int))], [e23_0 m]⟩ : St)) (by kernel_rfl) (⟨o1, tsI 1 trivial⟩) ?_
      refine awl_nil ?_
      exact thenQ_n ⟨(v36 + (1 : Int)), rfl, h⟩
    ·have h := h.2 hb
     refine cpr (st' := (⟨86, [sp 1 1], [e23_0 m]⟩ : St)) (by kernel_rfl) ?_
     refine aw_exit ?_
     refine thenQ_x ?_
     refine thenQ_x ?_
     refine blockQ_hit ?_
     exact rest3 () h
abbrev e12_0 (w : LI) : Nat × Path × AV := sI 11 (w.length : Int)
-- coppicer/coppicerref.WordCheck
def VC12_k1 (K : Int → Prop) : Prop :=
  K (0 : Int)
def VC12_l1 (k : Int) (w : LI) (K : Int → Prop) (v12 : Int) (X1 : Int → Prop) : Prop :=
  (((decide (v12 < (w.length : Int))) = true → (inIdx v12 w.length ∧ ((((decide ((w.getD (v12).toNat (0 : Int)) < (0 : Int))) || (decide (k ≤ (w.getD (v12).toNat (0 : Int))))) = true → K (2 : Int)) ∧ (((decide ((w.getD (v12).toNat (0 : Int)) < (0 : Int))) || (decide (k ≤ (w.getD (v12).toNat (0 : Int))))) = false → (InR (v12 + (1 : Int)) ∧ X1 (v12 + (1 : Int))))))) ∧ ((decide (v12 < (w.length : Int))) = false → VC12_k1 K))
def VC12 (k : Int) (w : LI) (K : Int → Prop) : Prop :=
  (((decide ((12 : Int) < (w.length : Int))) = true → K (1 : Int)) ∧ ((decide ((12 : Int) < (w.length : Int))) = false → Loop (σ := Int) (fun s X => VC12_l1 k w K s X) (0 : Int)))
set_option maxHeartbeats 4000000 in
theorem link12 (k : Int) (w : LI) (K : Int → Prop) (h : VC12 k w K) : ACalls Try.prog 12 [toV1 tI k, toV1 (.sl tI) w] (fun res => ∃ y, res = (fun y => [toV1 tI y]) y ∧ K y) := by
 refine acalls_of_aw [tI] [.t 4] Try.func12 rfl rfl rfl ?_
 unfold VC12 at h
 refine srn 1 ⟨24, [sI 0 k, s1 1 (.pS w)], []⟩ (by kernel_rfl) rfl ?_
 refine aw_seq ?_
 refine srn 3 ⟨24, [sI 0 k, s1 1 (.pS w), sB 9 (decide ((12 : Int) < (w.length : Int)))], []⟩ (by kernel_rfl) rfl ?_
 refine aw_cond (b := (decide ((12 : Int) < (w.length : Int)))) (by kernel_rfl) (fun hb => ?_) (fun hb => ?_)
 ·have h := h.1 hb
  refine srn 1 ⟨24, [sI 4 (1 : Int)], []⟩ (by kernel_rfl) rfl ?_
  refine aw_ret ?_
  refine thenQ_r ?_
  exact retQ_r (ob := Ts 1 True) _ (by kernel_rfl) (tsI 1 trivial) h
 ·have h := h.2 hb
  refine aw_skip ?_
  refine thenQ_n ?_
  refine aw_seq ?_
  refine srn 3 ⟨24, [sI 0 k, s1 10 (.pS w), e12_0 w, sI 12 (0 : Int)], []⟩ (by kernel_rfl) rfl ?_
  refine withJoin (σ := Unit) (fun s => (⟨24, [], []⟩ : St)) (fun s => VC12_k1 K) (fun s h => ?_) (fun rest1 => ?_)
  ·have h : VC12_k1 K := h
   unfold VC12_k1 at h
   refine thenQ_n ?_
   refine srn 1 ⟨24, [sI 4 (0 : Int)], []⟩ (by kernel_rfl) rfl ?_
   refine aw_ret ?_
   exact retQ_r (ob := Ts 1 True) _ (by kernel_rfl) (tsI 1 trivial) h
  ·refine aw_block ?_
   refine aw_loop (σ := Int) (fun s => (⟨24, [sI 0 k, s1 10 (.pS w), e12_0 w, sI 12 s], []⟩ : St)) (fun s X => VC12_l1 k w K s X) (s0 := (0 : Int)) (fun v12 X1 h => ?_) h
   have h : VC12_l1 k w K v12 X1 := h
   unfold VC12_l1 at h
   refine srn 1 ⟨24, [sI 0 k, s1 10 (.pS w), e12_0 w, sI 12 v12, sB 13 (decide (v12 < (w.length : Int)))], []⟩ (by kernel_rfl) rfl ?_
   refine aw_seq ?_
   refine aw_cond (b := (decide (v12 < (w.length : Int)))) (by kernel_rfl) (fun hb => ?_) (fun hb => ?_)
   ·have h := h.1 hb
    refine aw_skip ?_
    refine thenQ_n ?_
    refine aw_seq ?_
    refine aw_block ?_
    refine sr ?_
    obtain ⟨o1, h⟩ := h
    refine rq 3 (ob := (inIdx v12 w.length ∧ Ts 2 True)) (st' := (⟨24, [sI 0 k, sI 6 (w.getD (v12).toNat (0 : Int)), s1 10 (.pS w), e12_0 w, sI 12 v12], []⟩ : St)) (by kernel_rfl) (⟨o1, tsI 2 trivial⟩) ?_
    refine nsr ?_
    refine rq 7 (ob := (Ts 3 (Ti 3 ((decide ((w.getD (v12).toNat (0 : Int)) < (0 : Int))) = false → True) (Ts 1 True)))) (st' := (⟨24, [sI 0 k, s1 10 (.pS w), e12_0 w, sI 12 v12, sB 22 ((decide ((w.getD (v12).toNat (0 : Int)) < (0 : Int))) || (decide (k ≤ (w.getD (v12).toNat (0 : Int)))))], []⟩ : St)) (by kernel_rfl) (tsI 3 (tiI 3 (fun _ => trivial) (tsI 1 trivial))) ?_
    refine nn ?_
    refine aw_cond (b := ((decide ((w.getD (v12).toNat (0 : Int)) < (0 : Int))) || (decide (k ≤ (w.getD (v12).toNat (0 : Int)))))) (by kernel_rfl) (fun hb => ?_) (fun hb => ?_)
    ·have h := h.1 hb
     refine srn 1 ⟨24, [sI 4 (2 : Int)], []⟩ (by kernel_rfl) rfl ?_
     refine aw_ret ?_
     refine blockQ_r ?_
     refine thenQ_r ?_
     refine thenQ_r ?_
     refine blockQ_r ?_
     refine thenQ_r ?_
     exact retQ_r (ob := Ts 1 True) _ (by kernel_rfl) (tsI 1 trivial) h
    ·have h := h.2 hb
     refine aw_skip ?_
     refine blockQ_n ?_
     refine thenQ_n ?_
     refine aw_region ?_
     obtain ⟨o1, h⟩ := h
     refine rq 2 (ob := (InR (v12 + (1 : Int)) ∧ Ts 1 True)) (st' := (⟨24, [sI 0 k, s1 10 (.pS w), e12_0 w, sI 12 (v12 + (1 : Int))], []⟩ : St)) (by kernel_rfl) (⟨o1, tsI 1 trivial⟩) ?_
     refine awl_nil ?_
     exact thenQ_n ⟨(v12 + (1 : Int)), rfl, h⟩
   ·have h := h.2 hb
    refine cpr (st' := (⟨24, [], []⟩ : St)) (by kernel_rfl) ?_
    refine aw_exit ?_
    refine thenQ_x ?_
    refine thenQ_x ?_
    refine blockQ_hit ?_
    exact rest1 () h
abbrev e11_0 (m : (Int × (Int × (LL × (Int × Int))))) : Nat × Path × Con := hB 2 [.pI m.1, .pI m.2.1, .p (.sl (.sl tI)) m.2.2.1, .pI m.2.2.2.1, .pW m.2.2.2.2]
-- coppicer/coppicerkeep.good
def VC11 (m : (Int × (Int × (LL × (Int × Int))))) (w : LI) (K : Bool → Prop) : Prop :=
  VC23 m (fun (ret6v : Int) => gcall (α := Int) (decide (ret6v = (0 : Int))) (VC12 m.2.1 w) (0 : Int) (fun (ret12v : Int) => K ((decide (ret6v = (0 : Int))) && (decide (ret12v = (0 : Int))))))
set_option maxHeartbeats 4000000 in
theorem link11 (m : (Int × (Int × (LL × (Int × Int))))) (w : LI) (K : Bool → Prop) (h : VC11 m w K) : ACalls Try.prog 11 [toV1 (.pr tI (.pr tI (.pr (.sl (.sl tI)) (.pr tI (.int .u32))))) m, toV1 (.sl tI) w] (fun res => ∃ y, res = (fun y => [toV1 .bool y]) y ∧ K y) := by
 refine acalls_of_aw [.bool] [.t 4] Try.func11 rfl rfl rfl ?_
 unfold VC11 at h
 refine sr ?_
 refine rqT 2 ⟨15, [s1 1 (.pS w), sp 2 2], [e11_0 m]⟩ (by kernel_rfl) ?_
 refine nsr ?_
 refine rqT 1 ⟨15, [s1 1 (.pS w), sp 2 2, sA 5 [.pI m.1, .pI m.2.1, .p (.sl (.sl tI)) m.2.2.1, .pI m.2.2.2.1, .pW m.2.2.2.2]], [e11_0 m]⟩ (by kernel_rfl) ?_
 refine lcq (d := 6) [.d (.pr tI (.pr tI (.pr (.sl (.sl tI)) (.pr tI (.int .u32)))))] (fun ret6v => (⟨15, [s1 1 (.pS w), sp 2 2, sI 6 ret6v], [e11_0 m]⟩ : St)) (by kernel_rfl) Try.call23 (fun _ => by kernel_rfl) (link23 m _ h) (fun ret6v h => ?_)
 refine rq 5 (ob := (Ts 2 (Ti 3 ((decide (ret6v = (0 : Int))) = true → True) True))) (st' := (⟨15, [sB 8 (decide (ret6v = (0 : Int))), (10, [(8, true)], .v (.c (.pI m.2.1))), (11, [(8, true)], .v (.c (.pS w)))], []⟩ : St)) (by kernel_rfl) (tsI 2 (tiI 3 (fun _ => trivial) trivial)) ?_
 refine awl_callk (p := [(8, true)]) (l := [toV1 tI m.2.1, toV1 (.sl tI) w]) (cl := []) false [.d tI, .d (.sl tI)] [8, 12] [] (fun (ret12v : Int) => K ((decide (ret6v = (0 : Int))) && (decide (ret12v = (0 : Int))))) (fun ret12v => [toV1 tI ret12v]) (fun ret12v => (⟨15, [sB 8 (decide (ret6v = (0 : Int))), (12, [(8, true)], .v (.c (.pI ret12v)))], []⟩ : St)) (by kernel_rfl) rfl (by kernel_rfl) rfl (by kernel_rfl) Try.call12 (by kernel_rfl) (fun ret12v => by kernel_rfl) (fun e => by cases e) (fun hg => link12 m.2.1 w _ (by have := gcall_T h (show (decide (ret6v = (0 : Int))) = true from hg); exact this)) (fun hg => ⟨(0 : Int), by have := gcall_F h (show (decide (ret6v = (0 : Int))) = false from hg); exact this⟩) (fun ret12v h => ?_)
 refine rq 3 (ob := (((decide (ret6v = (0 : Int))) = true → True) ∧ Ts 2 True)) (st' := (⟨15, [sB 4 ((decide (ret6v = (0 : Int))) && (decide (ret12v = (0 : Int))))], []⟩ : St)) (by kernel_rfl) (⟨(fun _ => trivial), tsI 2 trivial⟩) ?_
 refine nn ?_
 refine aw_ret ?_
 exact retQ_r (ob := Ts 1 True) _ (by kernel_rfl) (tsI 1 trivial) h
abbrev e4_0 (m : (Int × (Int × (LL × (Int × Int))))) : Nat × Path × Con := hB 3 [.pI m.1, .pI m.2.1, .p (.sl (.sl tI)) m.2.2.1, .pI m.2.2.2.1, .pW m.2.2.2.2]
abbrev e4_1 (m : (Int × (Int × (LL × (Int × Int))))) : Nat × Path × AV := sA 31 [.pI m.1, .pI m.2.1, .p (.sl (.sl tI)) m.2.2.1, .pI m.2.2.2.1, .pW m.2.2.2.2]
abbrev e4_2 (v : LI) : Nat × Path × AV := s1 2 (.pS v)
abbrev e4_3 (u : LI) : Nat × Path × AV := s1 1 (.pS u)
-- coppicer/coppicerkeep.MachineFront
def VC4 (m : (Int × (Int × (LL × (Int × Int))))) (u : LI) (v : LI) (K : Bool → Prop) : Prop :=
  VC10 m u (fun (ret20v : Int × Bool × Int) => VC11 m u (fun (ret26v : Bool) => (((!ret26v) = true → K (!decide (ret20v.2.2 = (0 : Int)))) ∧ ((!ret26v) = false → (roomW 8 (([] : List Int).length + u.length) ∧ (roomW 8 ((([] : List Int) ++ u).length + v.length) ∧ VC10 m ((([] : List Int) ++ u) ++ v) (fun (ret37v : Int × Bool × Int) => (((((!decide (ret20v.2.2 = (0 : Int))) || (decide (ret20v.1 < (0 : Int)))) || (decide (m.1 ≤ ret20v.1))) = true → K false) ∧ ((((!decide (ret20v.2.2 = (0 : Int))) || (decide (ret20v.1 < (0 : Int)))) || (decide (m.1 ≤ ret20v.1))) = false → (((!decide (ret37v.2.2 = (0 : Int))) = true → (InR ((u.length : Int) + (v.length : Int)) ∧ gcall (α := Int) (!(decide ((12 : Int) < ((u.length : Int) + (v.length : Int))))) (VC12 m.2.1 v) (0 : Int) (fun (ret65v : Int) => K ((decide ((12 : Int) < ((u.length : Int) + (v.length : Int)))) || (!decide (ret65v = (0 : Int))))))) ∧ ((!decide (ret37v.2.2 = (0 : Int))) = false → VC10 (m.1, (m.2.1, (m.2.2.1, (ret20v.1, m.2.2.2.2)))) v (fun (ret74v : Int × Bool × Int) => K (((decide (ret74v.2.2 = (0 : Int))) && (decide (ret37v.1 = ret74v.1))) && (ret37v.2.1 == ret74v.2.1))))))))))))))
set_option maxHeartbeats 4000000 in
theorem link4 (m : (Int × (Int × (LL × (Int × Int))))) (u : LI) (v : LI) (K : Bool → Prop) (h : VC4 m u v K) : ACalls Try.prog 4 [toV1 (.pr tI (.pr tI (.pr (.sl (.sl tI)) (.pr tI (.int .u32))))) m, toV1 (.sl tI) u, toV1 (.sl tI) v] (fun res => ∃ y, res = (fun y => [toV1 .bool y]) y ∧ K y) := by
 refine acalls_of_aw [.bool] [.t 6] Try.func4 rfl rfl rfl ?_
 unfold VC4 at h
 refine sr ?_
 refine rqT 2 ⟨90, [e4_3 u, e4_2 v, sp 3 3], [e4_0 m]⟩ (by kernel_rfl) ?_
 refine nsr ?_
 refine rqT 2 ⟨90, [e4_3 u, e4_2 v, sp 3 3, sA 18 [.pI m.1, .pI m.2.1, .p (.sl (.sl tI)) m.2.2.1, .pI m.2.2.2.1, .pW m.2.2.2.2], s1 19 (.pS u)], [e4_0 m]⟩ (by kernel_rfl) ?_
 refine lcq (d := 20) [.d (.pr tI (.pr tI (.pr (.sl (.sl tI)) (.pr tI (.int .u32))))), .d (.sl tI)] (fun ret20v => (⟨90, [e4_3 u, e4_2 v, sp 3 3, (20, [], .tup [.c (.pI ret20v.1), .c (.pB ret20v.2.1), .c (.pI ret20v.2.2)])], [e4_0 m]⟩ : St)) (by kernel_rfl) Try.call10 (fun _ => by kernel_rfl) (link10 m u _ h) (fun ret20v h => ?_)
 refine rqT 7 ⟨90, [e4_3 u, e4_2 v, sp 3 3, sI 7 ret20v.1, sI 9 ret20v.2.2], [e4_0 m]⟩ (by kernel_rfl) ?_
 refine nn ?_
 refine aw_seq ?_
 refine sr ?_
 refine rqT 2 ⟨90, [e4_3 u, e4_2 v, sp 3 3, sI 7 ret20v.1, sI 9 ret20v.2.2, sA 24 [.pI m.1, .pI m.2.1, .p (.sl (.sl tI)) m.2.2.1, .pI m.2.2.2.1, .pW m.2.2.2.2], s1 25 (.pS u)], [e4_0 m]⟩ (by kernel_rfl) ?_
 refine lcq (d := 26) [.d (.pr tI (.pr tI (.pr (.sl (.sl tI)) (.pr tI (.int .u32))))), .d (.sl tI)] (fun ret26v => (⟨90, [e4_3 u, e4_2 v, sp 3 3, sI 7 ret20v.1, sI 9 ret20v.2.2, sB 26 ret26v], [e4_0 m]⟩ : St)) (by kernel_rfl) Try.call11 (fun _ => by kernel_rfl) (link11 m u _ h) (fun ret26v h => ?_)
 refine rqT 1 ⟨90, [e4_3 u, e4_2 v, sp 3 3, sI 7 ret20v.1, sI 9 ret20v.2.2, sB 27 (!ret26v)], [e4_0 m]⟩ (by kernel_rfl) ?_
 refine nn ?_
 refine aw_cond (b := (!ret26v)) (by kernel_rfl) (fun hb => ?_) (fun hb => ?_)
 ·have h := h.1 hb
  refine srn 3 ⟨90, [sB 6 (!decide (ret20v.2.2 = (0 : Int)))], []⟩ (by kernel_rfl) rfl ?_
  refine aw_ret ?_
  refine thenQ_r ?_
  exact retQ_r (ob := Ts 1 True) _ (by kernel_rfl) (tsI 1 trivial) h
 ·have h := h.2 hb
  refine aw_skip ?_
  refine thenQ_n ?_
  refine aw_seq ?_
  refine awd_begin [32, 34] (by kernel_rfl) ?_
  refine drq (by kernel_rfl) [0, 2, 4] (ob := (Ts 3 True)) (done' := [4, 2, 0]) (st' := (⟨90, [e4_3 u, e4_2 v, sp 3 3, sI 7 ret20v.1, sI 9 ret20v.2.2, e4_1 m, s1 33 (.pS u), s1 35 (.pS v)], [e4_0 m]⟩ : St)) (by kernel_rfl) (tsI 3 trivial) ?_
  refine awd_one (i := 1) (by kernel_rfl) ?_
  refine dsq (ob := True) (st' := (⟨90, [e4_3 u, e4_2 v, sp 3 3, sI 7 ret20v.1, sI 9 ret20v.2.2, e4_1 m, s1 32 (.own 32), s1 33 (.pS u), s1 35 (.pS v)], [e4_0 m, hA 32 3 tI ([] : List Int)]⟩ : St)) rfl (by kernel_rfl) trivial ?_
  refine awd_one (i := 3) (by kernel_rfl) ?_
  obtain ⟨o1, h⟩ := h
  refine dsq (ob := roomW 8 (([] : List Int).length + u.length)) (st' := (⟨90, [e4_3 u, e4_2 v, sp 3 3, sI 7 ret20v.1, sI 9 ret20v.2.2, e4_1 m, s1 34 (.own 34), s1 35 (.pS v)], [e4_0 m, hA 34 3 tI (([] : List Int) ++ u)]⟩ : St)) rfl (by kernel_rfl) o1 ?_
  refine awd_one (i := 5) (by kernel_rfl) ?_
  obtain ⟨o1, h⟩ := h
  refine dsq (ob := roomW 8 ((([] : List Int) ++ u).length + v.length)) (st' := (⟨90, [e4_3 u, e4_2 v, sp 3 3, sI 7 ret20v.1, sI 9 ret20v.2.2, e4_1 m, s1 36 (.own 36)], [e4_0 m, hA 36 3 tI ((([] : List Int) ++ u) ++ v)]⟩ : St)) rfl (by kernel_rfl) o1 ?_
  refine awd_one (i := 6) (by kernel_rfl) ?_
  refine adop_callk (p := []) (l := [toV1 (.pr tI (.pr tI (.pr (.sl (.sl tI)) (.pr tI (.int .u32))))) m, toV1 (.sl tI) ((([] : List Int) ++ u) ++ v)]) (cl := []) true [.d (.pr tI (.pr tI (.pr (.sl (.sl tI)) (.pr tI (.int .u32))))), .d (.sl tI)] [1, 2, 3, 7, 9, 37] [3] (fun (ret37v : Int × Bool × Int) => (((((!decide (ret20v.2.2 = (0 : Int))) || (decide (ret20v.1 < (0 : Int)))) || (decide (m.1 ≤ ret20v.1))) = true → K false) ∧ ((((!decide (ret20v.2.2 = (0 : Int))) || (decide (ret20v.1 < (0 : Int)))) || (decide (m.1 ≤ ret20v.1))) = false → (((!decide (ret37v.2.2 = (0 : Int))) = true → (InR ((u.length : Int) + (v.length : Int)) ∧ gcall (α := Int) (!(decide ((12 : Int) < ((u.length : Int) + (v.length : Int))))) (VC12 m.2.1 v) (0 : Int) (fun (ret65v : Int) => K ((decide ((12 : Int) < ((u.length : Int) + (v.length : Int)))) || (!decide (ret65v = (0 : Int))))))) ∧ ((!decide (ret37v.2.2 = (0 : Int))) = false → VC10 (m.1, (m.2.1, (m.2.2.1, (ret20v.1, m.2.2.2.2)))) v (fun (ret74v : Int × Bool × Int) => K (((decide (ret74v.2.2 = (0 : Int))) && (decide (ret37v.1 = ret74v.1))) && (ret37v.2.1 == ret74v.2.1)))))))) (fun ret37v => [toV1 tI ret37v.1, toV1 .bool ret37v.2.1, toV1 tI ret37v.2.2]) (fun ret37v => (⟨90, [e4_3 u, e4_2 v, sp 3 3, sI 7 ret20v.1, sI 9 ret20v.2.2, (37, [], .tup [.c (.pI ret37v.1), .c (.pB ret37v.2.1), .c (.pI ret37v.2.2)])], [e4_0 m]⟩ : St)) rfl (by kernel_rfl) rfl (by kernel_rfl) rfl (by kernel_rfl) Try.call10 (by kernel_rfl) (fun ret37v => by kernel_rfl) (fun _ _ => rfl) (fun hg => link10 m ((([] : List Int) ++ u) ++ v) _ h) (fun hg => noF hg) (fun ret37v h => ?_)
  refine drq (by kernel_rfl) [7, 8, 9, 10, 11, 12, 13] (ob := (Ts 7 True)) (done' := [13, 12, 11, 10, 9, 8, 7, 6, 5, 3, 1, 4, 2, 0]) (st' := (⟨90, [e4_3 u, e4_2 v, sp 3 3, sI 7 ret20v.1, sI 9 ret20v.2.2, sI 10 ret37v.1, sB 11 ret37v.2.1, sI 12 ret37v.2.2], [e4_0 m]⟩ : St)) (by kernel_rfl) (tsI 7 trivial) ?_
  refine awd_done (by kernel_rfl) ?_
  refine thenQ_n ?_
  refine aw_seq ?_
  refine sr ?_
  refine rq 12 (ob := (Ts 3 (Ti 2 ((!decide (ret20v.2.2 = (0 : Int))) = false → True) (Ts 2 (Ti 4 (((!decide (ret20v.2.2 = (0 : Int))) || (decide (ret20v.1 < (0 : Int)))) = false → True) (Ts 1 True)))))) (st' := (⟨90, [e4_3 u, e4_2 v, sp 3 3, sI 7 ret20v.1, sI 10 ret37v.1, sB 11 ret37v.2.1, sI 12 ret37v.2.2, sB 52 (((!decide (ret20v.2.2 = (0 : Int))) || (decide (ret20v.1 < (0 : Int)))) || (decide (m.1 ≤ ret20v.1)))], [e4_0 m]⟩ : St)) (by kernel_rfl) (tsI 3 (tiI 2 (fun _ => trivial) (tsI 2 (tiI 4 (fun _ => trivial) (tsI 1 trivial))))) ?_
  refine nn ?_
  refine aw_cond (b := (((!decide (ret20v.2.2 = (0 : Int))) || (decide (ret20v.1 < (0 : Int)))) || (decide (m.1 ≤ ret20v.1)))) (by kernel_rfl) (fun hb => ?_) (fun hb => ?_)
  ·have h := h.1 hb
   refine srn 1 ⟨90, [sB 6 false], []⟩ (by kernel_rfl) rfl ?_
   refine aw_ret ?_
   refine thenQ_r ?_
   exact retQ_r (ob := Ts 1 True) _ (by kernel_rfl) (tsI 1 trivial) h
  ·have h := h.2 hb
   refine aw_skip ?_
   refine thenQ_n ?_
   refine aw_seq ?_
   refine srn 2 ⟨90, [e4_3 u, e4_2 v, sp 3 3, sI 7 ret20v.1, sI 10 ret37v.1, sB 11 ret37v.2.1, sB 54 (!decide (ret37v.2.2 = (0 : Int)))], [e4_0 m]⟩ (by kernel_rfl) rfl ?_
   refine aw_cond (b := (!decide (ret37v.2.2 = (0 : Int)))) (by kernel_rfl) (fun hb => ?_) (fun hb => ?_)
   ·have h := h.1 hb
    refine sr ?_
    obtain ⟨o1, h⟩ := h
    refine rq 10 (ob := (Ts 4 (InR ((u.length : Int) + (v.length : Int)) ∧ Ts 2 (Ti 3 ((decide ((12 : Int) < ((u.length : Int) + (v.length : Int)))) = false → True) True)))) (st' := (⟨90, [sB 61 (decide ((12 : Int) < ((u.length : Int) + (v.length : Int)))), (63, [(61, false)], .v (.c (.pI m.2.1))), (64, [(61, false)], .v (.c (.pS v)))], []⟩ : St)) (by kernel_rfl) (tsI 4 ⟨o1, tsI 2 (tiI 3 (fun _ => trivial) trivial)⟩) ?_
    refine awl_callk (p := [(61, false)]) (l := [toV1 tI m.2.1, toV1 (.sl tI) v]) (cl := []) false [.d tI, .d (.sl tI)] [61, 65] [] (fun (ret65v : Int) => K ((decide ((12 : Int) < ((u.length : Int) + (v.length : Int)))) || (!decide (ret65v = (0 : Int))))) (fun ret65v => [toV1 tI ret65v]) (fun ret65v => (⟨90, [sB 61 (decide ((12 : Int) < ((u.length : Int) + (v.length : Int)))), (65, [(61, false)], .v (.c (.pI ret65v)))], []⟩ : St)) (by kernel_rfl) rfl (by kernel_rfl) rfl (by kernel_rfl) Try.call12 (by kernel_rfl) (fun ret65v => by kernel_rfl) (fun e => by cases e) (fun hg => link12 m.2.1 v _ (by have := gcall_T h (show (!(decide ((12 : Int) < ((u.length : Int) + (v.length : Int))))) = true from hg); exact this)) (fun hg => ⟨(0 : Int), by have := gcall_F h (show (!(decide ((12 : Int) < ((u.length : Int) + (v.length : Int))))) = false from hg); exact this⟩) (fun ret65v h => ?_)
    refine rq 3 (ob := (((decide ((12 : Int) < ((u.length : Int) + (v.length : Int)))) = false → True) ∧ Ts 2 True)) (st' := (⟨90, [sB 6 ((decide ((12 : Int) < ((u.length : Int) + (v.length : Int)))) || (!decide (ret65v = (0 : Int))))], []⟩ : St)) (by kernel_rfl) (⟨(fun _ => trivial), tsI 2 trivial⟩) ?_
    refine nn ?_
    refine aw_ret ?_
    refine thenQ_r ?_
    exact retQ_r (ob := Ts 1 True) _ (by kernel_rfl) (tsI 1 trivial) h
   ·have h := h.2 hb
    refine aw_skip ?_
    refine thenQ_n ?_
    refine sr ?_
    refine rqT 3 ⟨90, [e4_2 v, sI 7 ret20v.1, sI 10 ret37v.1, sB 11 ret37v.2.1, sp 13 13], [hB 13 [.pI m.1, .pI m.2.1, .p (.sl (.sl tI)) m.2.2.1, .pI m.2.2.2.1, .pW m.2.2.2.2]]⟩ (by kernel_rfl) ?_
    refine nsr ?_
    refine rqT 3 ⟨90, [e4_2 v, sI 10 ret37v.1, sB 11 ret37v.2.1, sp 13 13], [hB 13 [.pI m.1, .pI m.2.1, .p (.sl (.sl tI)) m.2.2.1, .pI ret20v.1, .pW m.2.2.2.2]]⟩ (by kernel_rfl) ?_
    refine nsr ?_
    refine rqT 2 ⟨90, [sI 10 ret37v.1, sB 11 ret37v.2.1, sA 72 [.pI m.1, .pI m.2.1, .p (.sl (.sl tI)) m.2.2.1, .pI ret20v.1, .pW m.2.2.2.2], s1 73 (.pS v)], []⟩ (by kernel_rfl) ?_
    refine lcq (d := 74) [.d (.pr tI (.pr tI (.pr (.sl (.sl tI)) (.pr tI (.int .u32))))), .d (.sl tI)] (fun ret74v => (⟨90, [sI 10 ret37v.1, sB 11 ret37v.2.1, (74, [], .tup [.c (.pI ret74v.1), .c (.pB ret74v.2.1), .c (.pI ret74v.2.2)])], []⟩ : St)) (by kernel_rfl) Try.call10 (fun _ => by kernel_rfl) (link10 (m.1, (m.2.1, (m.2.2.1, (ret20v.1, m.2.2.2.2)))) v _ h) (fun ret74v h => ?_)
    refine rqT 7 ⟨90, [sI 10 ret37v.1, sB 11 ret37v.2.1, sI 14 ret74v.1, sB 15 ret74v.2.1, sI 16 ret74v.2.2], []⟩ (by kernel_rfl) ?_
    refine nsr ?_
    refine rq 13 (ob := (Ts 3 (Ti 3 ((decide (ret74v.2.2 = (0 : Int))) = true → True) (Ts 2 (Ti 3 (((decide (ret74v.2.2 = (0 : Int))) && (decide (ret37v.1 = ret74v.1))) = true → True) (Ts 2 True)))))) (st' := (⟨90, [sB 6 (((decide (ret74v.2.2 = (0 : Int))) && (decide (ret37v.1 = ret74v.1))) && (ret37v.2.1 == ret74v.2.1))], []⟩ : St)) (by kernel_rfl) (tsI 3 (tiI 3 (fun _ => trivial) (tsI 2 (tiI 3 (fun _ => trivial) (tsI 2 trivial))))) ?_
    refine nn ?_
    refine aw_ret ?_
    exact retQ_r (ob := Ts 1 True) _ (by kernel_rfl) (tsI 1 trivial) h
end Dec
