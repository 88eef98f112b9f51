/-
Printed by dec2.py: of each function its plain demand, and that the demand gives the contract.
-/
import Derived.Test.YtckghdhnmpnljaaGenSb
set_option linter.unusedSimpArgs false
set_option linter.unusedVariables false
set_option maxRecDepth 100000
namespace Dec
open Go Go.RowKit Go.Proofs
abbrev e58_0 (sv : LI) : Nat × Path × AV := sI 7 (sv.length : Int)
-- slices.Index[[]int,int]
def VC58_k1 (K : Int → Prop) : Prop :=
  K (-1 : Int)
def VC58_l1 (sv : LI) (v : Int) (K : Int → Prop) (v8 : Int) (X1 : Int → Prop) : Prop :=
  (((decide (v8 < (sv.length : Int))) = true → (inIdx v8 sv.length ∧ (((decide (v = (sv.getD (v8).toNat (0 : Int)))) = true → K v8) ∧ ((decide (v = (sv.getD (v8).toNat (0 : Int)))) = false → (InR (v8 + (1 : Int)) ∧ X1 (v8 + (1 : Int))))))) ∧ ((decide (v8 < (sv.length : Int))) = false → VC58_k1 K))
def VC58 (sv : LI) (v : Int) (K : Int → Prop) : Prop :=
  Loop (σ := Int) (fun s X => VC58_l1 sv v K s X) (0 : Int)
set_option maxHeartbeats 4000000 in
theorem link58 (sv : LI) (v : Int) (K : Int → Prop) (h : VC58 sv v K) : ACalls Try.prog 58 [toV1 (.sl tI) sv, toV1 tI v] (fun res => ∃ y, res = (fun y => [toV1 tI y]) y ∧ K y) := by
 refine acalls_of_aw [tI] [.t 4] Try.func58 rfl rfl rfl ?_
 unfold VC58 at h
 refine srn 1 ⟨19, [s1 0 (.pS sv), sI 1 v], []⟩ (by kernel_rfl) rfl ?_
 refine aw_seq ?_
 refine srn 3 ⟨19, [s1 0 (.pS sv), sI 1 v, e58_0 sv, sI 8 (0 : Int)], []⟩ (by kernel_rfl) rfl ?_
 refine withJoin (σ := Unit) (fun s => (⟨19, [], []⟩ : St)) (fun s => VC58_k1 K) (fun s h => ?_) (fun rest1 => ?_)
 ·have h : VC58_k1 K := h
  unfold VC58_k1 at h
  refine thenQ_n ?_
  refine srn 1 ⟨19, [sI 4 (-1 : Int)], []⟩ (by kernel_rfl) rfl ?_
  refine aw_ret ?_
  exact retQ_r (ob := Ts 1 True) _ (by kernel_rfl) (tsI 1 trivial) h
 ·refine aw_block ?_
  refine aw_loop (σ := Int) (fun s => (⟨19, [s1 0 (.pS sv), sI 1 v, e58_0 sv, sI 8 s], []⟩ : St)) (fun s X => VC58_l1 sv v K s X) (s0 := (0 : Int)) (fun v8 X1 h => ?_) h
  have h : VC58_l1 sv v K v8 X1 := h
  unfold VC58_l1 at h
  refine srn 1 ⟨19, [s1 0 (.pS sv), sI 1 v, e58_0 sv, sI 8 v8, sB 9 (decide (v8 < (sv.length : Int)))], []⟩ (by kernel_rfl) rfl ?_
  refine aw_seq ?_
  refine aw_cond (b := (decide (v8 < (sv.length : Int)))) (by kernel_rfl) (fun hb => ?_) (fun hb => ?_)
  ·have h := h.1 hb
   refine aw_skip ?_
   refine thenQ_n ?_
   refine aw_seq ?_
   refine aw_block ?_
   refine sr ?_
   refine rqT 2 ⟨19, [s1 0 (.pS sv), sI 1 v, sI 5 v8, e58_0 sv, sI 8 v8], []⟩ (by kernel_rfl) ?_
   refine nsr ?_
   obtain ⟨o1, h⟩ := h
   refine rq 6 (ob := (Ts 3 (inIdx v8 sv.length ∧ Ts 2 True))) (st' := (⟨19, [s1 0 (.pS sv), sI 1 v, sI 5 v8, e58_0 sv, sI 8 v8, sB 16 (decide (v = (sv.getD (v8).toNat (0 : Int))))], []⟩ : St)) (by kernel_rfl) (tsI 3 ⟨o1, tsI 2 trivial⟩) ?_
   refine nn ?_
   refine aw_cond (b := (decide (v = (sv.getD (v8).toNat (0 : Int))))) (by kernel_rfl) (fun hb => ?_) (fun hb => ?_)
   ·have h := h.1 hb
    refine srn 2 ⟨19, [sI 4 v8], []⟩ (by kernel_rfl) rfl ?_
    refine aw_ret ?_
    refine blockQ_r ?_
    refine thenQ_r ?_
    refine thenQ_r ?_
    refine blockQ_r ?_
    refine thenQ_r ?_
    exact retQ_r (ob := Ts 1 True) _ (by kernel_rfl) (tsI 1 trivial) h
   ·have h := h.2 hb
    refine aw_skip ?_
    refine blockQ_n ?_
    refine thenQ_n ?_
    refine aw_region ?_
    obtain ⟨o1, h⟩ := h
    refine rq 2 (ob := (InR (v8 + (1 : Int)) ∧ Ts 1 True)) (st' := (⟨19, [s1 0 (.pS sv), sI 1 v, e58_0 sv, sI 8 (v8 + (1 : Int))], []⟩ : St)) (by kernel_rfl) (⟨o1, tsI 1 trivial⟩) ?_
    refine awl_nil ?_
    exact thenQ_n ⟨(v8 + (1 : Int)), rfl, h⟩
  ·have h := h.2 hb
   refine cpr (st' := (⟨19, [], []⟩ : St)) (by kernel_rfl) ?_
   refine aw_exit ?_
   refine thenQ_x ?_
   refine thenQ_x ?_
   refine blockQ_hit ?_
   exact rest1 () h
abbrev e29_0 (m : (Int × (Int × (LL × (Int × Int))))) : Nat × Path × Con := hB 1 [.pI m.1, .pI m.2.1, .p (.sl (.sl tI)) m.2.2.1, .pI m.2.2.2.1, .pW m.2.2.2.2]
abbrev e29_1 : Nat × Path × Con := hB 2 [.pI (0 : Int), .pI (0 : Int), .nils, .pI (0 : Int), .pW (0 : Int)]
abbrev e29_2 (m : (Int × (Int × (LL × (Int × Int))))) (out : Int) : Nat × Path × Con := hB 7 [.pI (0 : Int), .pI m.2.1, .own 6142, .pI (0 : Int), .pW out]
abbrev e29_3 (m : (Int × (Int × (LL × (Int × Int))))) : Nat × Path × AV := sI 40 ((List.replicate (m.2.1).toNat (0 : Int)).length : Int)
abbrev e29_4 (l6142 : LL) : Nat × Path × Con := hA 6142 26 (.sl tI) l6142
abbrev e29_5 (ret20v : LI) (m : (Int × (Int × (LL × (Int × Int))))) (found2 : LI) (i : Int) (v41 : Int) : Nat × Path × AV := sI 11 (ret20v.getD (((m.2.2.1.getD ((found2.getD ((i).toNat) (0 : Int))).toNat ([] : LI)).getD (v41).toNat (0 : Int))).toNat (0 : Int))
abbrev e29_6 (ret20v : LI) : Nat × Path × AV := s1 5 (.pS ret20v)
abbrev e29_7 (found2 : LI) : Nat × Path × Con := hA 26 3 tI found2
abbrev e29_8 : Nat × Path × AV := s1 6 (.own 26)
abbrev e29_9 (m : (Int × (Int × (LL × (Int × Int))))) (out : Int) : Nat × Path × Con := hB 7 [.pI (0 : Int), .pI m.2.1, .own 78, .pI (0 : Int), .pW out]
abbrev e29_10 (l6142 : LL) (row : LI) : Nat × Path × Con := hA 78 26 (.sl tI) (l6142 ++ [row])
abbrev e29_11 (row : LI) : Nat × Path × Con := hA 38 3 tI row
abbrev e29_12 : Nat × Path × AV := s1 9 (.own 38)
abbrev e29_13 (ret20v : LI) (m : (Int × (Int × (LL × (Int × Int))))) : Nat × Path × Con := hA 26 3 tI [(ret20v.getD (m.2.2.2.1).toNat (0 : Int))]
-- coppicer/least.Least
def VC29_k1 (m : (Int × (Int × (LL × (Int × Int))))) (K : (Int × (Int × (LL × (Int × Int)))) × Int → Prop) (out : Int) (found : LI) (l6142 : LL) : Prop :=
  K (((found.length : Int), (m.2.1, (l6142, ((0 : Int), out)))), (0 : Int))
def VC29_k3 (i : Int) (l6142 : LL) (X1 : Int × Int × LI × LL → Prop) (found2 : LI) (row : LI) (out2 : Int) : Prop :=
  (InR (i + (1 : Int)) ∧ X1 ((i + (1 : Int)), out2, found2, (l6142 ++ [row])))
def VC29_k2 (m : (Int × (Int × (LL × (Int × Int))))) (i : Int) (out : Int) (l6142 : LL) (X1 : Int × Int × LI × LL → Prop) (found2 : LI) (row : LI) : Prop :=
  (roomN (l6142.length + [row].length) ∧ (inIdx i found2.length ∧ VC44 m.2.2.2.2 (found2.getD ((i).toNat) (0 : Int)) (fun (ret86v : Bool) => ((ret86v = true → (0 ≤ i ∧ VC29_k3 i l6142 X1 found2 row (bOr .u32 out (bShl .u32 (1 : Int) i)))) ∧ (ret86v = false → VC29_k3 i l6142 X1 found2 row out)))))
def VC29_k4 (v41 : Int) (row : LI) (X2 : Int × LI × LI → Prop) (n : Int) (found3 : LI) : Prop :=
  (inIdx v41 row.length ∧ (InR (v41 + (1 : Int)) ∧ X2 ((v41 + (1 : Int)), found3, (row.set ((v41).toNat) n))))
def VC29_l2 (m : (Int × (Int × (LL × (Int × Int))))) (ret20v : LI) (i : Int) (out : Int) (l6142 : LL) (X1 : Int × Int × LI × LL → Prop) (v41 : Int) (found2 : LI) (row : LI) (X2 : Int × LI × LI → Prop) : Prop :=
  (((decide (v41 < ((List.replicate (m.2.1).toNat (0 : Int)).length : Int))) = true → (inIdx i found2.length ∧ inIdx (found2.getD ((i).toNat) (0 : Int)) m.2.2.1.length ∧ inIdx v41 (m.2.2.1.getD ((found2.getD ((i).toNat) (0 : Int))).toNat ([] : LI)).length ∧ inIdx ((m.2.2.1.getD ((found2.getD ((i).toNat) (0 : Int))).toNat ([] : LI)).getD (v41).toNat (0 : Int)) ret20v.length ∧ VC58 found2 (ret20v.getD (((m.2.2.1.getD ((found2.getD ((i).toNat) (0 : Int))).toNat ([] : LI)).getD (v41).toNat (0 : Int))).toNat (0 : Int)) (fun (ret60v : Int) => (((decide (ret60v < (0 : Int))) = true → (roomN (found2.length + [(ret20v.getD (((m.2.2.1.getD ((found2.getD ((i).toNat) (0 : Int))).toNat ([] : LI)).getD (v41).toNat (0 : Int))).toNat (0 : Int))].length) ∧ VC29_k4 v41 row X2 (found2.length : Int) (found2 ++ [(ret20v.getD (((m.2.2.1.getD ((found2.getD ((i).toNat) (0 : Int))).toNat ([] : LI)).getD (v41).toNat (0 : Int))).toNat (0 : Int))]))) ∧ ((decide (ret60v < (0 : Int))) = false → VC29_k4 v41 row X2 ret60v found2))))) ∧ ((decide (v41 < ((List.replicate (m.2.1).toNat (0 : Int)).length : Int))) = false → VC29_k2 m i out l6142 X1 found2 row))
def VC29_l1 (m : (Int × (Int × (LL × (Int × Int))))) (K : (Int × (Int × (LL × (Int × Int)))) × Int → Prop) (ret20v : LI) (i : Int) (out : Int) (found : LI) (l6142 : LL) (X1 : Int × Int × LI × LL → Prop) : Prop :=
  (((decide (i < (found.length : Int))) = true → (room m.2.1 ∧ Loop (σ := Int × LI × LI) (fun s X => VC29_l2 m ret20v i out l6142 X1 s.1 s.2.1 s.2.2 X) ((0 : Int), found, (List.replicate (m.2.1).toNat (0 : Int))))) ∧ ((decide (i < (found.length : Int))) = false → VC29_k1 m K out found l6142))
def VC29 (m : (Int × (Int × (LL × (Int × Int))))) (K : (Int × (Int × (LL × (Int × Int)))) × Int → Prop) : Prop :=
  VC43 m (fun (ret14v : Int) => (((!decide (ret14v = (0 : Int))) = true → K (((0 : Int), ((0 : Int), (([] : LL), ((0 : Int), (0 : Int))))), ret14v)) ∧ ((!decide (ret14v = (0 : Int))) = false → VC57 m (fun (ret20v : LI) => (inIdx m.2.2.2.1 ret20v.length ∧ Loop (σ := Int × Int × LI × LL) (fun s X => VC29_l1 m K ret20v s.1 s.2.1 s.2.2.1 s.2.2.2 X) ((0 : Int), (0 : Int), [(ret20v.getD (m.2.2.2.1).toNat (0 : Int))], ([] : List LI)))))))
set_option maxHeartbeats 4000000 in
theorem link29 (m : (Int × (Int × (LL × (Int × Int))))) (K : (Int × (Int × (LL × (Int × Int)))) × Int → Prop) (h : VC29 m K) : ACalls Try.prog 29 [toV1 (.pr tI (.pr tI (.pr (.sl (.sl tI)) (.pr tI (.int .u32))))) m] (fun res => ∃ y, res = (fun y => [toV1 (.pr tI (.pr tI (.pr (.sl (.sl tI)) (.pr tI (.int .u32))))) y.1, toV1 tI y.2]) y ∧ K y) := by
 refine acalls_of_aw [(.pr tI (.pr tI (.pr (.sl (.sl tI)) (.pr tI (.int .u32))))), tI] [.c 2 41, .t 3] Try.func29 rfl rfl rfl ?_
 unfold VC29 at h
 refine srn 3 ⟨97, [sp 1 1, sp 2 2], [e29_0 m, e29_1]⟩ (by kernel_rfl) rfl ?_
 refine aw_seq ?_
 refine sr ?_
 refine rqT 1 ⟨97, [sp 1 1, sp 2 2, sA 13 [.pI m.1, .pI m.2.1, .p (.sl (.sl tI)) m.2.2.1, .pI m.2.2.2.1, .pW m.2.2.2.2]], [e29_0 m, e29_1]⟩ (by kernel_rfl) ?_
 refine lcq (d := 14) [.d (.pr tI (.pr tI (.pr (.sl (.sl tI)) (.pr tI (.int .u32)))))] (fun ret14v => (⟨97, [sp 1 1, sp 2 2, sI 14 ret14v], [e29_0 m, e29_1]⟩ : St)) (by kernel_rfl) Try.call43 (fun _ => by kernel_rfl) (link43 m _ h) (fun ret14v h => ?_)
 refine rqT 1 ⟨97, [sp 1 1, sp 2 2, sI 4 ret14v], [e29_0 m, e29_1]⟩ (by kernel_rfl) ?_
 refine nsr ?_
 refine rqT 2 ⟨97, [sp 1 1, sp 2 2, sI 4 ret14v, sB 16 (!decide (ret14v = (0 : Int)))], [e29_0 m, e29_1]⟩ (by kernel_rfl) ?_
 refine nn ?_
 refine aw_cond (b := (!decide (ret14v = (0 : Int)))) (by kernel_rfl) (fun hb => ?_) (fun hb => ?_)
 ·have h := h.1 hb
  refine srn 4 ⟨97, [sp 2 2, sI 3 ret14v], [e29_1]⟩ (by kernel_rfl) rfl ?_
  refine aw_ret ?_
  refine thenQ_r ?_
  exact retQ_r (ob := Ts 2 True) _ (by kernel_rfl) (tsI 2 trivial) h
 ·have h := h.2 hb
  refine aw_skip ?_
  refine thenQ_n ?_
  refine sr ?_
  refine rqT 1 ⟨97, [sp 1 1, sp 2 2, sA 19 [.pI m.1, .pI m.2.1, .p (.sl (.sl tI)) m.2.2.1, .pI m.2.2.2.1, .pW m.2.2.2.2]], [e29_0 m, e29_1]⟩ (by kernel_rfl) ?_
  refine lcq (d := 20) [.d (.pr tI (.pr tI (.pr (.sl (.sl tI)) (.pr tI (.int .u32)))))] (fun ret20v => (⟨97, [sp 1 1, sp 2 2, s1 20 (.pS ret20v)], [e29_0 m, e29_1]⟩ : St)) (by kernel_rfl) Try.call57 (fun _ => by kernel_rfl) (link57 m _ h) (fun ret20v h => ?_)
  refine rqT 1 ⟨97, [sp 1 1, sp 2 2, e29_6 ret20v], [e29_0 m, e29_1]⟩ (by kernel_rfl) ?_
  refine nsr ?_
  obtain ⟨o1, h⟩ := h
  refine rq 7 (ob := (Ts 3 (inIdx m.2.2.2.1 ret20v.length ∧ Ts 3 True))) (st' := (⟨97, [sp 1 1, sp 2 2, e29_6 ret20v, e29_8], [e29_0 m, e29_1, e29_13 ret20v m]⟩ : St)) (by kernel_rfl) (tsI 3 ⟨o1, tsI 3 trivial⟩) ?_
  refine nsr ?_
  refine rqT 5 ⟨97, [sp 1 1, sp 2 2, e29_6 ret20v, e29_8, sp 7 7], [e29_0 m, e29_1, hB 7 [.pI (0 : Int), .pI m.2.1, .nils, .pI (0 : Int), .pW (0 : Int)], e29_13 ret20v m]⟩ (by kernel_rfl) ?_
  refine nn ?_
  refine aw_seq ?_
  refine srn 1 ⟨97, [sp 1 1, sp 2 2, e29_6 ret20v, e29_8, sp 7 7, sI 8 (0 : Int)], [e29_0 m, e29_1, hB 7 [.pI (0 : Int), .pI m.2.1, .nils, .pI (0 : Int), .pW (0 : Int)], e29_13 ret20v m]⟩ (by kernel_rfl) rfl ?_
  refine withJoin (σ := Int × LI × LL) (fun s => (⟨97, [sp 2 2, e29_8, sp 7 7], [e29_1, hB 7 [.pI (0 : Int), .pI m.2.1, .own 6142, .pI (0 : Int), .pW s.1], hA 26 3 tI s.2.1, hA 6142 26 (.sl tI) s.2.2]⟩ : St)) (fun s => VC29_k1 m K s.1 s.2.1 s.2.2) (fun s h => ?_) (fun rest1 => ?_)
  ·obtain ⟨out, found, l6142⟩ := s
   have h : VC29_k1 m K out found l6142 := h
   unfold VC29_k1 at h
   refine thenQ_n ?_
   refine sr ?_
   refine rqT 4 ⟨97, [sp 2 2, sp 7 7], [e29_1, hB 7 [.pI (found.length : Int), .pI m.2.1, .own 6142, .pI (0 : Int), .pW out], e29_4 l6142]⟩ (by kernel_rfl) ?_
   refine nsr ?_
   refine rqT 3 ⟨97, [sp 2 2, sI 3 (0 : Int)], [hB 2 [.pI (found.length : Int), .pI m.2.1, .own 6142, .pI (0 : Int), .pW out], e29_4 l6142]⟩ (by kernel_rfl) ?_
   refine nn ?_
   refine aw_conv [.freeze 6142] (st' := (⟨97, [sp 2 2, sI 3 (0 : Int)], [hB 2 [.pI (found.length : Int), .pI m.2.1, .p (.sl (.sl tI)) l6142, .pI (0 : Int), .pW out]]⟩ : St)) (by kernel_rfl) ?_
   refine aw_ret ?_
   exact retQ_r (ob := Ts 2 True) _ (by kernel_rfl) (tsI 2 trivial) h
  ·refine aw_block ?_
   refine aw_conv [.nilOwnB 7 2 6142 26 (.sl tI), .prune [1, 2, 5, 6, 7, 8] [1, 2, 7, 26, 6142]] (st' := (⟨97, [sp 1 1, sp 2 2, e29_6 ret20v, e29_8, sp 7 7, sI 8 (0 : Int)], [e29_0 m, e29_1, hB 7 [.pI (0 : Int), .pI m.2.1, .own 6142, .pI (0 : Int), .pW (0 : Int)], e29_13 ret20v m, hA 6142 26 (.sl tI) ([] : List LI)]⟩ : St)) (by kernel_rfl) ?_
   refine aw_loop (σ := Int × Int × LI × LL) (fun s => (⟨97, [sp 1 1, sp 2 2, e29_6 ret20v, e29_8, sp 7 7, sI 8 s.1], [e29_0 m, e29_1, hB 7 [.pI (0 : Int), .pI m.2.1, .own 6142, .pI (0 : Int), .pW s.2.1], hA 26 3 tI s.2.2.1, hA 6142 26 (.sl tI) s.2.2.2]⟩ : St)) (fun s X => VC29_l1 m K ret20v s.1 s.2.1 s.2.2.1 s.2.2.2 X) (s0 := ((0 : Int), (0 : Int), [(ret20v.getD (m.2.2.2.1).toNat (0 : Int))], ([] : List LI))) (fun s X1 h => ?_) h
   obtain ⟨i, out, found, l6142⟩ := s
   have h : VC29_l1 m K ret20v i out found l6142 X1 := h
   unfold VC29_l1 at h
   refine aw_seq ?_
   refine srn 4 ⟨97, [sp 1 1, sp 2 2, e29_6 ret20v, e29_8, sp 7 7, sI 8 i, sB 33 (decide (i < (found.length : Int)))], [e29_0 m, e29_1, e29_2 m out, hA 26 3 tI found, e29_4 l6142]⟩ (by kernel_rfl) rfl ?_
   refine aw_cond (b := (decide (i < (found.length : Int)))) (by kernel_rfl) (fun hb => ?_) (fun hb => ?_)
   ·have h := h.1 hb
    refine aw_skip ?_
    refine thenQ_n ?_
    refine aw_seq ?_
    refine aw_block ?_
    refine sr ?_
    obtain ⟨o1, h⟩ := h
    refine rq 4 (ob := (Ts 2 (room m.2.1 ∧ Ts 1 True))) (st' := (⟨97, [sp 1 1, sp 2 2, e29_6 ret20v, e29_8, sp 7 7, sI 8 i, e29_12], [e29_0 m, e29_1, e29_2 m out, hA 26 3 tI found, hA 38 3 tI (List.replicate (m.2.1).toNat (0 : Int)), e29_4 l6142]⟩ : St)) (by kernel_rfl) (tsI 2 ⟨o1, tsI 1 trivial⟩) ?_
    refine nn ?_
    refine aw_seq ?_
    refine srn 3 ⟨97, [sp 1 1, sp 2 2, e29_6 ret20v, e29_8, sp 7 7, sI 8 i, e29_12, e29_3 m, sI 41 (0 : Int)], [e29_0 m, e29_1, e29_2 m out, hA 26 3 tI found, hA 38 3 tI (List.replicate (m.2.1).toNat (0 : Int)), e29_4 l6142]⟩ (by kernel_rfl) rfl ?_
    refine withJoin (σ := LI × LI) (fun s => (⟨97, [sp 1 1, sp 2 2, e29_6 ret20v, e29_8, sp 7 7, sI 8 i, e29_12], [e29_0 m, e29_1, e29_2 m out, hA 26 3 tI s.1, hA 38 3 tI s.2, e29_4 l6142]⟩ : St)) (fun s => VC29_k2 m i out l6142 X1 s.1 s.2) (fun s h => ?_) (fun rest3 => ?_)
    ·obtain ⟨found2, row⟩ := s
     have h : VC29_k2 m i out l6142 X1 found2 row := h
     unfold VC29_k2 at h
     refine thenQ_n ?_
     refine sr ?_
     refine rqT 3 ⟨97, [sp 1 1, sp 2 2, e29_6 ret20v, e29_8, sp 7 7, sI 8 i, s1 75 (.own 6142), s1 76 (.own 38)], [e29_0 m, e29_1, e29_2 m out, e29_7 found2, e29_11 row, e29_4 l6142]⟩ (by kernel_rfl) ?_
     refine awl_conv [.freeze 38] (st' := (⟨97, [sp 1 1, sp 2 2, e29_6 ret20v, e29_8, sp 7 7, sI 8 i, s1 75 (.own 6142), s1 76 (.pS row)], [e29_0 m, e29_1, e29_2 m out, e29_7 found2, e29_4 l6142]⟩ : St)) (by kernel_rfl) ?_
     obtain ⟨o1, h⟩ := h
     refine rq 4 (ob := (Ts 1 (roomN (l6142.length + [row].length) ∧ Ts 2 True))) (st' := (⟨97, [sp 1 1, sp 2 2, e29_6 ret20v, e29_8, sp 7 7, sI 8 i], [e29_0 m, e29_1, e29_9 m out, e29_7 found2, e29_10 l6142 row]⟩ : St)) (by kernel_rfl) (tsI 1 ⟨o1, tsI 2 trivial⟩) ?_
     refine nn ?_
     refine aw_seq ?_
     refine awd_begin [] (by kernel_rfl) ?_
     obtain ⟨o1, h⟩ := h
     refine drq (by kernel_rfl) [0, 1, 2, 3, 4, 5] (ob := (Ts 4 (inIdx i found2.length ∧ Ts 1 True))) (done' := [5, 4, 3, 2, 1, 0]) (st' := (⟨97, [sp 1 1, sp 2 2, e29_6 ret20v, e29_8, sp 7 7, sI 8 i, s1 81 (.pW m.2.2.2.2), sI 85 (found2.getD ((i).toNat) (0 : Int))], [e29_0 m, e29_1, e29_9 m out, e29_7 found2, e29_10 l6142 row]⟩ : St)) (by kernel_rfl) (tsI 4 ⟨o1, tsI 1 trivial⟩) ?_
     refine awd_one (i := 6) (by kernel_rfl) ?_
     refine dcq (d := 86) [.d (.int .u32), .d tI] (fun ret86v => (⟨97, [sp 1 1, sp 2 2, e29_6 ret20v, e29_8, sp 7 7, sI 8 i, sB 86 ret86v], [e29_0 m, e29_1, e29_9 m out, e29_7 found2, e29_10 l6142 row]⟩ : St)) rfl (by kernel_rfl) Try.call44 (fun _ => by kernel_rfl) (link44 m.2.2.2.2 (found2.getD ((i).toNat) (0 : Int)) _ h) (fun ret86v h => ?_)
     refine awd_done (by kernel_rfl) ?_
     refine thenQ_n ?_
     refine withJoin (σ := Int) (fun s => (⟨97, [sp 1 1, sp 2 2, e29_6 ret20v, e29_8, sp 7 7, sI 8 i], [e29_0 m, e29_1, hB 7 [.pI (0 : Int), .pI m.2.1, .own 78, .pI (0 : Int), .pW s], e29_7 found2, e29_10 l6142 row]⟩ : St)) (fun s => VC29_k3 i l6142 X1 found2 row s) (fun out2 h => ?_) (fun rest2 => ?_)
     ·have h : VC29_k3 i l6142 X1 found2 row out2 := h
      unfold VC29_k3 at h
      refine blockQ_n ?_
      refine thenQ_n ?_
      refine aw_region ?_
      obtain ⟨o1, h⟩ := h
      refine rq 3 (ob := (Ts 1 (InR (i + (1 : Int)) ∧ Ts 1 True))) (st' := (⟨97, [sp 1 1, sp 2 2, e29_6 ret20v, e29_8, sp 7 7, sI 8 (i + (1 : Int))], [e29_0 m, e29_1, hB 7 [.pI (0 : Int), .pI m.2.1, .own 78, .pI (0 : Int), .pW out2], e29_7 found2, e29_10 l6142 row]⟩ : St)) (by kernel_rfl) (tsI 1 ⟨o1, tsI 1 trivial⟩) ?_
      refine awl_conv [.ren 78 20078, .ren 20078 6142] (st' := (⟨97, [sp 1 1, sp 2 2, e29_6 ret20v, e29_8, sp 7 7, sI 8 (i + (1 : Int))], [e29_0 m, e29_1, hB 7 [.pI (0 : Int), .pI m.2.1, .own 6142, .pI (0 : Int), .pW out2], e29_7 found2, hA 6142 26 (.sl tI) (l6142 ++ [row])]⟩ : St)) (by kernel_rfl) ?_
      refine awl_nil ?_
      exact thenQ_n ⟨((i + (1 : Int)), out2, found2, (l6142 ++ [row])), rfl, h⟩
     ·refine aw_cond (b := ret86v) (by kernel_rfl) (fun hb => ?_) (fun hb => ?_)
      ·have h := h.1 hb
       refine awd_begin [7] (by kernel_rfl) ?_
       obtain ⟨o1, h⟩ := h
       refine drq (by kernel_rfl) [0, 2, 3] (ob := (Ts 2 (0 ≤ i ∧ True))) (done' := [3, 2, 0]) (st' := (⟨97, [sp 1 1, sp 2 2, e29_6 ret20v, e29_8, sp 7 7, sI 8 i, s1 87 (.ptr 7 4), s1 90 (.pW (bShl .u32 (1 : Int) i))], [e29_0 m, e29_1, e29_9 m out, e29_7 found2, e29_10 l6142 row]⟩ : St)) (by kernel_rfl) (tsI 2 ⟨o1, trivial⟩) ?_
       refine awd_one (i := 1) (by kernel_rfl) ?_
       refine dsq (ob := True) (st' := (⟨97, [sp 1 1, sp 2 2, e29_6 ret20v, e29_8, sp 7 7, sI 8 i, s1 88 (.pW out), s1 90 (.pW (bShl .u32 (1 : Int) i))], [e29_0 m, e29_1, e29_9 m out, e29_7 found2, e29_10 l6142 row]⟩ : St)) rfl (by kernel_rfl) trivial ?_
       refine drq (by kernel_rfl) [4, 5] (ob := (Ts 2 True)) (done' := [5, 4, 1, 3, 2, 0]) (st' := (⟨97, [sp 1 1, sp 2 2, e29_6 ret20v, e29_8, sp 7 7, sI 8 i, s1 91 (.pW (bOr .u32 out (bShl .u32 (1 : Int) i))), s1 92 (.ptr 7 4)], [e29_0 m, e29_1, e29_9 m out, e29_7 found2, e29_10 l6142 row]⟩ : St)) (by kernel_rfl) (tsI 2 trivial) ?_
       refine awd_one (i := 6) (by kernel_rfl) ?_
       refine dsq (ob := True) (st' := (⟨97, [sp 1 1, sp 2 2, e29_6 ret20v, e29_8, sp 7 7, sI 8 i], [e29_0 m, e29_1, hB 7 [.pI (0 : Int), .pI m.2.1, .own 78, .pI (0 : Int), .pW (bOr .u32 out (bShl .u32 (1 : Int) i))], e29_7 found2, e29_10 l6142 row]⟩ : St)) rfl (by kernel_rfl) trivial ?_
       refine awd_done (by kernel_rfl) ?_
       exact rest2 (bOr .u32 out (bShl .u32 (1 : Int) i)) h
      ·have h := h.2 hb
       refine cpr (st' := (⟨97, [sp 1 1, sp 2 2, e29_6 ret20v, e29_8, sp 7 7, sI 8 i], [e29_0 m, e29_1, e29_9 m out, e29_7 found2, e29_10 l6142 row]⟩ : St)) (by kernel_rfl) ?_
       refine aw_skip ?_
       exact rest2 out h
    ·refine aw_block ?_
     refine aw_loop (σ := Int × LI × LI) (fun s => (⟨97, [sp 1 1, sp 2 2, e29_6 ret20v, e29_8, sp 7 7, sI 8 i, e29_12, e29_3 m, sI 41 s.1], [e29_0 m, e29_1, e29_2 m out, hA 26 3 tI s.2.1, hA 38 3 tI s.2.2, e29_4 l6142]⟩ : St)) (fun s X => VC29_l2 m ret20v i out l6142 X1 s.1 s.2.1 s.2.2 X) (s0 := ((0 : Int), found, (List.replicate (m.2.1).toNat (0 : Int)))) (fun s X2 h => ?_) h
     obtain ⟨v41, found2, row⟩ := s
     have h : VC29_l2 m ret20v i out l6142 X1 v41 found2 row X2 := h
     unfold VC29_l2 at h
     refine srn 1 ⟨97, [sp 1 1, sp 2 2, e29_6 ret20v, e29_8, sp 7 7, sI 8 i, e29_12, e29_3 m, sI 41 v41, sB 42 (decide (v41 < ((List.replicate (m.2.1).toNat (0 : Int)).length : Int)))], [e29_0 m, e29_1, e29_2 m out, e29_7 found2, e29_11 row, e29_4 l6142]⟩ (by kernel_rfl) rfl ?_
     refine aw_seq ?_
     refine aw_cond (b := (decide (v41 < ((List.replicate (m.2.1).toNat (0 : Int)).length : Int)))) (by kernel_rfl) (fun hb => ?_) (fun hb => ?_)
     ·have h := h.1 hb
      refine aw_skip ?_
      refine thenQ_n ?_
      refine aw_seq ?_
      refine aw_block ?_
      refine srn 2 ⟨97, [sp 1 1, sp 2 2, e29_6 ret20v, e29_8, sp 7 7, sI 8 i, e29_12, sI 10 v41, e29_3 m, sI 41 v41], [e29_0 m, e29_1, e29_2 m out, e29_7 found2, e29_11 row, e29_4 l6142]⟩ (by kernel_rfl) rfl ?_
      refine aw_seq ?_
      refine awd_begin [] (by kernel_rfl) ?_
      obtain ⟨o1, o2, o3, o4, h⟩ := h
      refine drq (by kernel_rfl) [0, 1, 2, 3, 4, 5, 6, 7, 8, 9, 10, 11, 12, 13, 14] (ob := (Ts 5 (inIdx i found2.length ∧ Ts 1 (inIdx (found2.getD ((i).toNat) (0 : Int)) m.2.2.1.length ∧ Ts 2 (inIdx v41 (m.2.2.1.getD ((found2.getD ((i).toNat) (0 : Int))).toNat ([] : LI)).length ∧ Ts 1 (inIdx ((m.2.2.1.getD ((found2.getD ((i).toNat) (0 : Int))).toNat ([] : LI)).getD (v41).toNat (0 : Int)) ret20v.length ∧ Ts 2 True)))))) (done' := [14, 13, 12, 11, 10, 9, 8, 7, 6, 5, 4, 3, 2, 1, 0]) (st' := (⟨97, [sp 1 1, sp 2 2, e29_6 ret20v, e29_8, sp 7 7, sI 8 i, e29_12, sI 10 v41, e29_5 ret20v m found2 i v41, e29_3 m, sI 41 v41], [e29_0 m, e29_1, e29_2 m out, e29_7 found2, e29_11 row, e29_4 l6142]⟩ : St)) (by kernel_rfl) (tsI 5 (⟨o1, tsI 1 (⟨o2, tsI 2 (⟨o3, tsI 1 ⟨o4, tsI 2 trivial⟩⟩)⟩)⟩)) ?_
      refine awd_done (by kernel_rfl) ?_
      refine thenQ_n ?_
      refine sr ?_
      refine rqT 2 ⟨97, [sp 1 1, sp 2 2, e29_6 ret20v, e29_8, sp 7 7, sI 8 i, e29_12, sI 10 v41, e29_5 ret20v m found2 i v41, e29_3 m, sI 41 v41, s1 58 (.own 26), sI 59 (ret20v.getD (((m.2.2.1.getD ((found2.getD ((i).toNat) (0 : Int))).toNat ([] : LI)).getD (v41).toNat (0 : Int))).toNat (0 : Int))], [e29_0 m, e29_1, e29_2 m out, e29_7 found2, e29_11 row, e29_4 l6142]⟩ (by kernel_rfl) ?_
      refine awl_callk (p := []) (l := [toV1 (.sl tI) found2, toV1 tI (ret20v.getD (((m.2.2.1.getD ((found2.getD ((i).toNat) (0 : Int))).toNat ([] : LI)).getD (v41).toNat (0 : Int))).toNat (0 : Int))]) (cl := []) true [.d (.sl tI), .d tI] [1, 2, 5, 6, 7, 8, 9, 10, 11, 40, 41, 60] [1, 2, 7, 26, 38, 6142] (fun (ret60v : Int) => (((decide (ret60v < (0 : Int))) = true → (roomN (found2.length + [(ret20v.getD (((m.2.2.1.getD ((found2.getD ((i).toNat) (0 : Int))).toNat ([] : LI)).getD (v41).toNat (0 : Int))).toNat (0 : Int))].length) ∧ VC29_k4 v41 row X2 (found2.length : Int) (found2 ++ [(ret20v.getD (((m.2.2.1.getD ((found2.getD ((i).toNat) (0 : Int))).toNat ([] : LI)).getD (v41).toNat (0 : Int))).toNat (0 : Int))]))) ∧ ((decide (ret60v < (0 : Int))) = false → VC29_k4 v41 row X2 ret60v found2))) (fun ret60v => [toV1 tI ret60v]) (fun ret60v => (⟨97, [sp 1 1, sp 2 2, e29_6 ret20v, e29_8, sp 7 7, sI 8 i, e29_12, sI 10 v41, e29_5 ret20v m found2 i v41, e29_3 m, sI 41 v41, sI 60 ret60v], [e29_0 m, e29_1, e29_2 m out, e29_7 found2, e29_11 row, e29_4 l6142]⟩ : St)) (by kernel_rfl) rfl (by kernel_rfl) rfl (by kernel_rfl) Try.call58 (by kernel_rfl) (fun ret60v => by kernel_rfl) (fun _ _ => rfl) (fun hg => link58 found2 (ret20v.getD (((m.2.2.1.getD ((found2.getD ((i).toNat) (0 : Int))).toNat ([] : LI)).getD (v41).toNat (0 : Int))).toNat (0 : Int)) _ h) (fun hg => noF hg) (fun ret60v h => ?_)
      refine rqT 1 ⟨97, [sp 1 1, sp 2 2, e29_6 ret20v, e29_8, sp 7 7, sI 8 i, e29_12, sI 10 v41, e29_5 ret20v m found2 i v41, sI 12 ret60v, e29_3 m, sI 41 v41], [e29_0 m, e29_1, e29_2 m out, e29_7 found2, e29_11 row, e29_4 l6142]⟩ (by kernel_rfl) ?_
      refine nn ?_
      refine aw_seq ?_
      refine srn 2 ⟨97, [sp 1 1, sp 2 2, e29_6 ret20v, e29_8, sp 7 7, sI 8 i, e29_12, sI 10 v41, e29_5 ret20v m found2 i v41, sI 12 ret60v, e29_3 m, sI 41 v41, sB 62 (decide (ret60v < (0 : Int)))], [e29_0 m, e29_1, e29_2 m out, e29_7 found2, e29_11 row, e29_4 l6142]⟩ (by kernel_rfl) rfl ?_
      refine withJoin (σ := Int × LI) (fun s => (⟨97, [sp 1 1, sp 2 2, e29_6 ret20v, s1 6 (.own 68), sp 7 7, sI 8 i, e29_12, sI 10 v41, sI 12 s.1, e29_3 m, sI 41 v41], [e29_0 m, e29_1, e29_2 m out, e29_11 row, hA 68 3 tI s.2, e29_4 l6142]⟩ : St)) (fun s => VC29_k4 v41 row X2 s.1 s.2) (fun s h => ?_) (fun rest4 => ?_)
      ·obtain ⟨n, found3⟩ := s
       have h : VC29_k4 v41 row X2 n found3 := h
       unfold VC29_k4 at h
       refine thenQ_n ?_
       refine aw_region ?_
       obtain ⟨o1, h⟩ := h
       refine rq 5 (ob := (Ts 3 (inIdx v41 row.length ∧ Ts 1 True))) (st' := (⟨97, [sp 1 1, sp 2 2, e29_6 ret20v, s1 6 (.own 68), sp 7 7, sI 8 i, e29_12, e29_3 m, sI 41 v41], [e29_0 m, e29_1, e29_2 m out, hA 38 3 tI (row.set ((v41).toNat) n), hA 68 3 tI found3, e29_4 l6142]⟩ : St)) (by kernel_rfl) (tsI 3 ⟨o1, tsI 1 trivial⟩) ?_
       refine awl_nil ?_
       refine blockQ_n ?_
       refine thenQ_n ?_
       refine aw_region ?_
       obtain ⟨o1, h⟩ := h
       refine rq 2 (ob := (InR (v41 + (1 : Int)) ∧ Ts 1 True)) (st' := (⟨97, [sp 1 1, sp 2 2, e29_6 ret20v, s1 6 (.own 68), sp 7 7, sI 8 i, e29_12, e29_3 m, sI 41 (v41 + (1 : Int))], [e29_0 m, e29_1, e29_2 m out, hA 38 3 tI (row.set ((v41).toNat) n), hA 68 3 tI found3, e29_4 l6142]⟩ : St)) (by kernel_rfl) (⟨o1, tsI 1 trivial⟩) ?_
       refine awl_conv [.ren 68 20068, .ren 20068 26, .prune [1, 2, 5, 6, 7, 8, 9, 40, 41] [1, 2, 7, 26, 38, 6142]] (st' := (⟨97, [sp 1 1, sp 2 2, e29_6 ret20v, e29_8, sp 7 7, sI 8 i, e29_12, e29_3 m, sI 41 (v41 + (1 : Int))], [e29_0 m, e29_1, e29_2 m out, hA 26 3 tI found3, hA 38 3 tI (row.set ((v41).toNat) n), e29_4 l6142]⟩ : St)) (by kernel_rfl) ?_
       refine awl_nil ?_
       exact thenQ_n ⟨((v41 + (1 : Int)), found3, (row.set ((v41).toNat) n)), rfl, h⟩
      ·refine aw_cond (b := (decide (ret60v < (0 : Int)))) (by kernel_rfl) (fun hb => ?_) (fun hb => ?_)
       ·have h := h.1 hb
        refine srn 3 ⟨97, [sp 1 1, sp 2 2, e29_6 ret20v, e29_8, sp 7 7, sI 8 i, e29_12, sI 10 v41, e29_5 ret20v m found2 i v41, sI 12 (found2.length : Int), e29_3 m, sI 41 v41], [e29_0 m, e29_1, e29_2 m out, e29_7 found2, e29_11 row, e29_4 l6142]⟩ (by kernel_rfl) rfl ?_
        refine aw_region ?_
        obtain ⟨o1, h⟩ := h
        refine rq 5 (ob := (Ts 3 (roomN (found2.length + [(ret20v.getD (((m.2.2.1.getD ((found2.getD ((i).toNat) (0 : Int))).toNat ([] : LI)).getD (v41).toNat (0 : Int))).toNat (0 : Int))].length) ∧ Ts 1 True))) (st' := (⟨97, [sp 1 1, sp 2 2, e29_6 ret20v, s1 6 (.own 68), sp 7 7, sI 8 i, e29_12, sI 10 v41, sI 12 (found2.length : Int), e29_3 m, sI 41 v41], [e29_0 m, e29_1, e29_2 m out, e29_11 row, hA 68 3 tI (found2 ++ [(ret20v.getD (((m.2.2.1.getD ((found2.getD ((i).toNat) (0 : Int))).toNat ([] : LI)).getD (v41).toNat (0 : Int))).toNat (0 : Int))]), e29_4 l6142]⟩ : St)) (by kernel_rfl) (tsI 3 ⟨o1, tsI 1 trivial⟩) ?_
        refine awl_nil ?_
        exact rest4 ((found2.length : Int), (found2 ++ [(ret20v.getD (((m.2.2.1.getD ((found2.getD ((i).toNat) (0 : Int))).toNat ([] : LI)).getD (v41).toNat (0 : Int))).toNat (0 : Int))])) h
       ·have h := h.2 hb
        refine aw_conv [.prune [1, 2, 5, 6, 7, 8, 9, 10, 12, 40, 41] [1, 2, 7, 26, 38, 6142], .ren 26 20026, .ren 20026 68, .prune [1, 2, 5, 6, 7, 8, 9, 10, 12, 40, 41] [1, 2, 7, 38, 68, 6142]] (st' := (⟨97, [sp 1 1, sp 2 2, e29_6 ret20v, s1 6 (.own 68), sp 7 7, sI 8 i, e29_12, sI 10 v41, sI 12 ret60v, e29_3 m, sI 41 v41], [e29_0 m, e29_1, e29_2 m out, e29_11 row, hA 68 3 tI found2, e29_4 l6142]⟩ : St)) (by kernel_rfl) ?_
        refine aw_skip ?_
        exact rest4 (ret60v, found2) h
     ·have h := h.2 hb
      refine cpr (st' := (⟨97, [sp 1 1, sp 2 2, e29_6 ret20v, e29_8, sp 7 7, sI 8 i, e29_12], [e29_0 m, e29_1, e29_2 m out, e29_7 found2, e29_11 row, e29_4 l6142]⟩ : St)) (by kernel_rfl) ?_
      refine aw_exit ?_
      refine thenQ_x ?_
      refine thenQ_x ?_
      refine blockQ_hit ?_
      exact rest3 (found2, row) h
   ·have h := h.2 hb
    refine cpr (st' := (⟨97, [sp 2 2, e29_8, sp 7 7], [e29_1, e29_2 m out, hA 26 3 tI found, e29_4 l6142]⟩ : St)) (by kernel_rfl) ?_
    refine aw_exit ?_
    refine thenQ_x ?_
    refine thenQ_x ?_
    refine blockQ_hit ?_
    exact rest1 (out, found, l6142) h
-- coppicer/coppicerref.Ints
def VC18_k1 (K : Bool → Prop) : Prop :=
  K true
def VC18_l1 (a : LI) (b : LI) (K : Bool → Prop) (i : Int) (X1 : Int → Prop) : Prop :=
  (((decide (i < (a.length : Int))) = true → (inIdx i a.length ∧ inIdx i b.length ∧ (((!decide ((a.getD (i).toNat (0 : Int)) = (b.getD (i).toNat (0 : Int)))) = true → K false) ∧ ((!decide ((a.getD (i).toNat (0 : Int)) = (b.getD (i).toNat (0 : Int)))) = false → (InR (i + (1 : Int)) ∧ X1 (i + (1 : Int))))))) ∧ ((decide (i < (a.length : Int))) = false → VC18_k1 K))
def VC18 (a : LI) (b : LI) (K : Bool → Prop) : Prop :=
  (((!decide ((a.length : Int) = (b.length : Int))) = true → K false) ∧ ((!decide ((a.length : Int) = (b.length : Int))) = false → Loop (σ := Int) (fun s X => VC18_l1 a b K s X) (0 : Int)))
set_option maxHeartbeats 4000000 in
theorem link18 (a : LI) (b : LI) (K : Bool → Prop) (h : VC18 a b K) : ACalls Try.prog 18 [toV1 (.sl tI) a, toV1 (.sl tI) b] (fun res => ∃ y, res = (fun y => [toV1 .bool y]) y ∧ K y) := by
 refine acalls_of_aw [.bool] [.t 4] Try.func18 rfl rfl rfl ?_
 unfold VC18 at h
 refine srn 1 ⟨26, [s1 0 (.pS a), s1 1 (.pS b)], []⟩ (by kernel_rfl) rfl ?_
 refine aw_seq ?_
 refine srn 5 ⟨26, [s1 0 (.pS a), s1 1 (.pS b), sB 10 (!decide ((a.length : Int) = (b.length : Int)))], []⟩ (by kernel_rfl) rfl ?_
 refine aw_cond (b := (!decide ((a.length : Int) = (b.length : Int)))) (by kernel_rfl) (fun hb => ?_) (fun hb => ?_)
 ·have h := h.1 hb
  refine srn 1 ⟨26, [sB 4 false], []⟩ (by kernel_rfl) rfl ?_
  refine aw_ret ?_
  refine thenQ_r ?_
  exact retQ_r (ob := Ts 1 True) _ (by kernel_rfl) (tsI 1 trivial) h
 ·have h := h.2 hb
  refine aw_skip ?_
  refine thenQ_n ?_
  refine aw_seq ?_
  refine srn 1 ⟨26, [s1 0 (.pS a), s1 1 (.pS b), sI 5 (0 : Int)], []⟩ (by kernel_rfl) rfl ?_
  refine withJoin (σ := Unit) (fun s => (⟨26, [], []⟩ : St)) (fun s => VC18_k1 K) (fun s h => ?_) (fun rest1 => ?_)
  ·have h : VC18_k1 K := h
   unfold VC18_k1 at h
   refine thenQ_n ?_
   refine srn 1 ⟨26, [sB 4 true], []⟩ (by kernel_rfl) rfl ?_
   refine aw_ret ?_
   exact retQ_r (ob := Ts 1 True) _ (by kernel_rfl) (tsI 1 trivial) h
  ·refine aw_block ?_
   refine aw_loop (σ := Int) (fun s => (⟨26, [s1 0 (.pS a), s1 1 (.pS b), sI 5 s], []⟩ : St)) (fun s X => VC18_l1 a b K s X) (s0 := (0 : Int)) (fun i X1 h => ?_) h
   have h : VC18_l1 a b K i X1 := h
   unfold VC18_l1 at h
   refine aw_seq ?_
   refine srn 4 ⟨26, [s1 0 (.pS a), s1 1 (.pS b), sI 5 i, sB 14 (decide (i < (a.length : Int)))], []⟩ (by kernel_rfl) rfl ?_
   refine aw_cond (b := (decide (i < (a.length : Int)))) (by kernel_rfl) (fun hb => ?_) (fun hb => ?_)
   ·have h := h.1 hb
    refine aw_skip ?_
    refine thenQ_n ?_
    refine aw_seq ?_
    refine aw_block ?_
    refine aw_seq ?_
    refine awd_begin [] (by kernel_rfl) ?_
    obtain ⟨o1, o2, h⟩ := h
    refine drq (by kernel_rfl) [0, 1, 2, 3, 4, 5, 6, 7, 8] (ob := (Ts 2 (inIdx i a.length ∧ Ts 3 (inIdx i b.length ∧ Ts 2 True)))) (done' := [8, 7, 6, 5, 4, 3, 2, 1, 0]) (st' := (⟨26, [s1 0 (.pS a), s1 1 (.pS b), sI 5 i, sB 25 (!decide ((a.getD (i).toNat (0 : Int)) = (b.getD (i).toNat (0 : Int))))], []⟩ : St)) (by kernel_rfl) (tsI 2 (⟨o1, tsI 3 ⟨o2, tsI 2 trivial⟩⟩)) ?_
    refine awd_done (by kernel_rfl) ?_
    refine thenQ_n ?_
    refine aw_cond (b := (!decide ((a.getD (i).toNat (0 : Int)) = (b.getD (i).toNat (0 : Int))))) (by kernel_rfl) (fun hb => ?_) (fun hb => ?_)
    ·have h := h.1 hb
     refine srn 1 ⟨26, [sB 4 false], []⟩ (by kernel_rfl) rfl ?_
     refine aw_ret ?_
     refine blockQ_r ?_
     refine thenQ_r ?_
     refine thenQ_r ?_
     refine blockQ_r ?_
     refine thenQ_r ?_
     exact retQ_r (ob := Ts 1 True) _ (by kernel_rfl) (tsI 1 trivial) h
    ·have h := h.2 hb
     refine aw_skip ?_
     refine blockQ_n ?_
     refine thenQ_n ?_
     refine aw_region ?_
     obtain ⟨o1, h⟩ := h
     refine rq 3 (ob := (Ts 1 (InR (i + (1 : Int)) ∧ Ts 1 True))) (st' := (⟨26, [s1 0 (.pS a), s1 1 (.pS b), sI 5 (i + (1 : Int))], []⟩ : St)) (by kernel_rfl) (tsI 1 ⟨o1, tsI 1 trivial⟩) ?_
     refine awl_nil ?_
     exact thenQ_n ⟨(i + (1 : Int)), rfl, h⟩
   ·have h := h.2 hb
    refine cpr (st' := (⟨26, [], []⟩ : St)) (by kernel_rfl) ?_
    refine aw_exit ?_
    refine thenQ_x ?_
    refine thenQ_x ?_
    refine blockQ_hit ?_
    exact rest1 () h
abbrev e59_0 (a : LL) : Nat × Path × AV := s1 0 (.p (.sl (.sl tI)) a)
abbrev e59_1 (b : LL) : Nat × Path × AV := s1 1 (.p (.sl (.sl tI)) b)
-- coppicer/coppicerref.Lists
def VC59_k1 (K : Bool → Prop) : Prop :=
  K true
def VC59_l1 (a : LL) (b : LL) (K : Bool → Prop) (i : Int) (X1 : Int → Prop) : Prop :=
  (((decide (i < (a.length : Int))) = true → (inIdx i a.length ∧ inIdx i b.length ∧ VC18 (a.getD (i).toNat ([] : LI)) (b.getD (i).toNat ([] : LI)) (fun (ret25v : Bool) => (((!ret25v) = true → K false) ∧ ((!ret25v) = false → (InR (i + (1 : Int)) ∧ X1 (i + (1 : Int)))))))) ∧ ((decide (i < (a.length : Int))) = false → VC59_k1 K))
def VC59 (a : LL) (b : LL) (K : Bool → Prop) : Prop :=
  (((!decide ((a.length : Int) = (b.length : Int))) = true → K false) ∧ ((!decide ((a.length : Int) = (b.length : Int))) = false → Loop (σ := Int) (fun s X => VC59_l1 a b K s X) (0 : Int)))
set_option maxHeartbeats 4000000 in
theorem link59 (a : LL) (b : LL) (K : Bool → Prop) (h : VC59 a b K) : ACalls Try.prog 59 [toV1 (.sl (.sl tI)) a, toV1 (.sl (.sl tI)) b] (fun res => ∃ y, res = (fun y => [toV1 .bool y]) y ∧ K y) := by
 refine acalls_of_aw [.bool] [.t 4] Try.func59 rfl rfl rfl ?_
 unfold VC59 at h
 refine srn 1 ⟨27, [e59_0 a, e59_1 b], []⟩ (by kernel_rfl) rfl ?_
 refine aw_seq ?_
 refine srn 5 ⟨27, [e59_0 a, e59_1 b, sB 10 (!decide ((a.length : Int) = (b.length : Int)))], []⟩ (by kernel_rfl) rfl ?_
 refine aw_cond (b := (!decide ((a.length : Int) = (b.length : Int)))) (by kernel_rfl) (fun hb => ?_) (fun hb => ?_)
 ·have h := h.1 hb
  refine srn 1 ⟨27, [sB 4 false], []⟩ (by kernel_rfl) rfl ?_
  refine aw_ret ?_
  refine thenQ_r ?_
  exact retQ_r (ob := Ts 1 True) _ (by kernel_rfl) (tsI 1 trivial) h
 ·have h := h.2 hb
  refine aw_skip ?_
  refine thenQ_n ?_
  refine aw_seq ?_
  refine srn 1 ⟨27, [e59_0 a, e59_1 b, sI 5 (0 : Int)], []⟩ (by kernel_rfl) rfl ?_
  refine withJoin (σ := Unit) (fun s => (⟨27, [], []⟩ : St)) (fun s => VC59_k1 K) (fun s h => ?_) (fun rest1 => ?_)
  ·have h : VC59_k1 K := h
   unfold VC59_k1 at h
   refine thenQ_n ?_
   refine srn 1 ⟨27, [sB 4 true], []⟩ (by kernel_rfl) rfl ?_
   refine aw_ret ?_
   exact retQ_r (ob := Ts 1 True) _ (by kernel_rfl) (tsI 1 trivial) h
  ·refine aw_block ?_
   refine aw_loop (σ := Int) (fun s => (⟨27, [e59_0 a, e59_1 b, sI 5 s], []⟩ : St)) (fun s X => VC59_l1 a b K s X) (s0 := (0 : Int)) (fun i X1 h => ?_) h
   have h : VC59_l1 a b K i X1 := h
   unfold VC59_l1 at h
   refine aw_seq ?_
   refine srn 4 ⟨27, [e59_0 a, e59_1 b, sI 5 i, sB 14 (decide (i < (a.length : Int)))], []⟩ (by kernel_rfl) rfl ?_
   refine aw_cond (b := (decide (i < (a.length : Int)))) (by kernel_rfl) (fun hb => ?_) (fun hb => ?_)
   ·have h := h.1 hb
    refine aw_skip ?_
    refine thenQ_n ?_
    refine aw_seq ?_
    refine aw_block ?_
    refine aw_seq ?_
    refine awd_begin [] (by kernel_rfl) ?_
    obtain ⟨o1, o2, h⟩ := h
    refine drq (by kernel_rfl) [0, 1, 2, 3, 4, 5, 6, 7] (ob := (Ts 2 (inIdx i a.length ∧ Ts 3 (inIdx i b.length ∧ Ts 1 True)))) (done' := [7, 6, 5, 4, 3, 2, 1, 0]) (st' := (⟨27, [e59_0 a, e59_1 b, sI 5 i, s1 20 (.pS (a.getD (i).toNat ([] : LI))), s1 24 (.pS (b.getD (i).toNat ([] : LI)))], []⟩ : St)) (by kernel_rfl) (tsI 2 (⟨o1, tsI 3 ⟨o2, tsI 1 trivial⟩⟩)) ?_
    refine awd_one (i := 8) (by kernel_rfl) ?_
    refine dcq (d := 25) [.d (.sl tI), .d (.sl tI)] (fun ret25v => (⟨27, [e59_0 a, e59_1 b, sI 5 i, sB 25 ret25v], []⟩ : St)) rfl (by kernel_rfl) Try.call18 (fun _ => by kernel_rfl) (link18 (a.getD (i).toNat ([] : LI)) (b.getD (i).toNat ([] : LI)) _ h) (fun ret25v h => ?_)
    refine drq (by kernel_rfl) [9] (ob := (Ts 1 True)) (done' := [9, 8, 7, 6, 5, 4, 3, 2, 1, 0]) (st' := (⟨27, [e59_0 a, e59_1 b, sI 5 i, sB 26 (!ret25v)], []⟩ : St)) (by kernel_rfl) (tsI 1 trivial) ?_
    refine awd_done (by kernel_rfl) ?_
    refine thenQ_n ?_
    refine aw_cond (b := (!ret25v)) (by kernel_rfl) (fun hb => ?_) (fun hb => ?_)
    ·have h := h.1 hb
     refine srn 1 ⟨27, [sB 4 false], []⟩ (by kernel_rfl) rfl ?_
     refine aw_ret ?_
     refine blockQ_r ?_
     refine thenQ_r ?_
     refine thenQ_r ?_
     refine blockQ_r ?_
     refine thenQ_r ?_
     exact retQ_r (ob := Ts 1 True) _ (by kernel_rfl) (tsI 1 trivial) h
    ·have h := h.2 hb
     refine aw_skip ?_
     refine blockQ_n ?_
     refine thenQ_n ?_
     refine aw_region ?_
     obtain ⟨o1, h⟩ := h
     refine rq 3 (ob := (Ts 1 (InR (i + (1 : Int)) ∧ Ts 1 True))) (st' := (⟨27, [e59_0 a, e59_1 b, sI 5 (i + (1 : Int))], []⟩ : St)) (by kernel_rfl) (tsI 1 ⟨o1, tsI 1 trivial⟩) ?_
     refine awl_nil ?_
     exact thenQ_n ⟨(i + (1 : Int)), rfl, h⟩
   ·have h := h.2 hb
    refine cpr (st' := (⟨27, [], []⟩ : St)) (by kernel_rfl) ?_
    refine aw_exit ?_
    refine thenQ_x ?_
    refine thenQ_x ?_
    refine blockQ_hit ?_
    exact rest1 () h
-- coppicer/coppicerref.MachineSame
def VC30 (a : (Int × (Int × (LL × (Int × Int))))) (b : (Int × (Int × (LL × (Int × Int))))) (K : Bool → Prop) : Prop :=
  gcall (α := Bool) ((((decide (a.1 = b.1)) && (decide (a.2.1 = b.2.1))) && (decide (a.2.2.2.1 = b.2.2.2.1))) && (decide (a.2.2.2.2 = b.2.2.2.2))) (VC59 a.2.2.1 b.2.2.1) false (fun (ret36v : Bool) => K (((((decide (a.1 = b.1)) && (decide (a.2.1 = b.2.1))) && (decide (a.2.2.2.1 = b.2.2.2.1))) && (decide (a.2.2.2.2 = b.2.2.2.2))) && ret36v))
set_option maxHeartbeats 4000000 in
theorem link30 (a : (Int × (Int × (LL × (Int × Int))))) (b : (Int × (Int × (LL × (Int × Int))))) (K : Bool → Prop) (h : VC30 a b K) : ACalls Try.prog 30 [toV1 (.pr tI (.pr tI (.pr (.sl (.sl tI)) (.pr tI (.int .u32))))) a, toV1 (.pr tI (.pr tI (.pr (.sl (.sl tI)) (.pr tI (.int .u32))))) b] (fun res => ∃ y, res = (fun y => [toV1 .bool y]) y ∧ K y) := by
 refine acalls_of_aw [.bool] [.t 4] Try.func30 rfl rfl rfl ?_
 unfold VC30 at h
 refine sr ?_
 refine rqT 3 ⟨38, [sp 2 2, sp 3 3], [hB 2 [.pI a.1, .pI a.2.1, .p (.sl (.sl tI)) a.2.2.1, .pI a.2.2.2.1, .pW a.2.2.2.2], hB 3 [.pI b.1, .pI b.2.1, .p (.sl (.sl tI)) b.2.2.1, .pI b.2.2.2.1, .pW b.2.2.2.2]]⟩ (by kernel_rfl) ?_
 refine nsr ?_
 refine rq 31 (ob := (Ts 6 (Ti 5 ((decide (a.1 = b.1)) = true → True) (Ts 2 (Ti 5 (((decide (a.1 = b.1)) && (decide (a.2.1 = b.2.1))) = true → True) (Ts 2 (Ti 5 ((((decide (a.1 = b.1)) && (decide (a.2.1 = b.2.1))) && (decide (a.2.2.2.1 = b.2.2.2.1))) = true → True) (Ts 2 (Ti 4 (((((decide (a.1 = b.1)) && (decide (a.2.1 = b.2.1))) && (decide (a.2.2.2.1 = b.2.2.2.1))) && (decide (a.2.2.2.2 = b.2.2.2.2))) = true → True) True))))))))) (st' := (⟨38, [sB 31 ((((decide (a.1 = b.1)) && (decide (a.2.1 = b.2.1))) && (decide (a.2.2.2.1 = b.2.2.2.1))) && (decide (a.2.2.2.2 = b.2.2.2.2))), (33, [(31, true)], .v (.c (.p (.sl (.sl tI)) a.2.2.1))), (35, [(31, true)], .v (.c (.p (.sl (.sl tI)) b.2.2.1)))], []⟩ : St)) (by kernel_rfl) (tsI 6 (tiI 5 (fun _ => trivial) (tsI 2 (tiI 5 (fun _ => trivial) (tsI 2 (tiI 5 (fun _ => trivial) (tsI 2 (tiI 4 (fun _ => trivial) trivial)))))))) ?_
 refine awl_callk (p := [(31, true)]) (l := [toV1 (.sl (.sl tI)) a.2.2.1, toV1 (.sl (.sl tI)) b.2.2.1]) (cl := []) false [.d (.sl (.sl tI)), .d (.sl (.sl tI))] [31, 36] [] (fun (ret36v : Bool) => K (((((decide (a.1 = b.1)) && (decide (a.2.1 = b.2.1))) && (decide (a.2.2.2.1 = b.2.2.2.1))) && (decide (a.2.2.2.2 = b.2.2.2.2))) && ret36v)) (fun ret36v => [toV1 .bool ret36v]) (fun ret36v => (⟨38, [sB 31 ((((decide (a.1 = b.1)) && (decide (a.2.1 = b.2.1))) && (decide (a.2.2.2.1 = b.2.2.2.1))) && (decide (a.2.2.2.2 = b.2.2.2.2))), (36, [(31, true)], .v (.c (.pB ret36v)))], []⟩ : St)) (by kernel_rfl) rfl (by kernel_rfl) rfl (by kernel_rfl) Try.call59 (by kernel_rfl) (fun ret36v => by kernel_rfl) (fun e => by cases e) (fun hg => link59 a.2.2.1 b.2.2.1 _ (by have := gcall_T h (show ((((decide (a.1 = b.1)) && (decide (a.2.1 = b.2.1))) && (decide (a.2.2.2.1 = b.2.2.2.1))) && (decide (a.2.2.2.2 = b.2.2.2.2))) = true from hg); exact this)) (fun hg => ⟨false, by have := gcall_F h (show ((((decide (a.1 = b.1)) && (decide (a.2.1 = b.2.1))) && (decide (a.2.2.2.1 = b.2.2.2.1))) && (decide (a.2.2.2.2 = b.2.2.2.2))) = false from hg); exact this⟩) (fun ret36v h => ?_)
 refine rqT 2 ⟨38, [sB 4 (((((decide (a.1 = b.1)) && (decide (a.2.1 = b.2.1))) && (decide (a.2.2.2.1 = b.2.2.2.1))) && (decide (a.2.2.2.2 = b.2.2.2.2))) && ret36v)], []⟩ (by kernel_rfl) ?_
 refine nn ?_
 refine aw_ret ?_
 exact retQ_r (ob := Ts 1 True) _ (by kernel_rfl) (tsI 1 trivial) h
abbrev e9_0 (ret19v : (Int × (Int × (LL × (Int × Int)))) × Int) : Nat × Path × Con := hB 7 [.pI ret19v.1.1, .pI ret19v.1.2.1, .p (.sl (.sl tI)) ret19v.1.2.2.1, .pI ret19v.1.2.2.2.1, .pW ret19v.1.2.2.2.2]
abbrev e9_1 (w : LI) : Nat × Path × AV := s1 2 (.pS w)
abbrev e9_2 (l : LN) : Nat × Path × AV := s1 1 (.p (.sl t3) l)
-- coppicer/coppicerkeep.AfterSure
def VC9 (k : Int) (l : LN) (w : LI) (K : Bool → Prop) : Prop :=
  VC28 k l (fun (ret19v : (Int × (Int × (LL × (Int × Int)))) × Int) => VC23 k l w (fun (ret26v : Bool × Int) => VC24 k l w (fun (ret32v : Bool) => (((!ret32v) = true → K (!decide (ret26v.2 = (0 : Int)))) ∧ ((!ret32v) = false → (((!decide (ret26v.2 = (0 : Int))) = true → K false) ∧ ((!decide (ret26v.2 = (0 : Int))) = false → (((!decide (ret19v.2 = (0 : Int))) = true → K ((decide (ret19v.2 = (1 : Int))) && (decide (ret19v.1.1 = (0 : Int))))) ∧ ((!decide (ret19v.2 = (0 : Int))) = false → VC22 ret19v.1 w (fun (ret50v : Int × Bool × Int) => VC29 ret19v.1 (fun (ret56v : (Int × (Int × (LL × (Int × Int)))) × Int) => gcall (α := Bool) (((decide (ret50v.2.2 = (0 : Int))) && (decide (ret56v.2 = (0 : Int)))) && (ret26v.1 == ret50v.2.1)) (VC30 ret56v.1 ret19v.1) false (fun (ret73v : Bool) => K ((((decide (ret50v.2.2 = (0 : Int))) && (decide (ret56v.2 = (0 : Int)))) && (ret26v.1 == ret50v.2.1)) && ret73v)))))))))))))
set_option maxHeartbeats 4000000 in
theorem link9 (k : Int) (l : LN) (w : LI) (K : Bool → Prop) (h : VC9 k l w K) : ACalls Try.prog 9 [toV1 tI k, toV1 (.sl t3) l, toV1 (.sl tI) w] (fun res => ∃ y, res = (fun y => [toV1 .bool y]) y ∧ K y) := by
 refine acalls_of_aw [.bool] [.t 6] Try.func9 rfl rfl rfl ?_
 unfold VC9 at h
 refine sr ?_
 refine rqT 1 ⟨75, [sI 0 k, e9_2 l, e9_1 w], []⟩ (by kernel_rfl) ?_
 refine nsr ?_
 refine rqT 2 ⟨75, [sI 0 k, e9_2 l, e9_1 w, sI 17 k, s1 18 (.p (.sl t3) l)], []⟩ (by kernel_rfl) ?_
 refine lcq (d := 19) [.d tI, .d (.sl t3)] (fun ret19v => (⟨75, [sI 0 k, e9_2 l, e9_1 w, (19, [], .tup [.agg [.pI ret19v.1.1, .pI ret19v.1.2.1, .p (.sl (.sl tI)) ret19v.1.2.2.1, .pI ret19v.1.2.2.2.1, .pW ret19v.1.2.2.2.2], .c (.pI ret19v.2)])], []⟩ : St)) (by kernel_rfl) Try.call28 (fun _ => by kernel_rfl) (link28 k l _ h) (fun ret19v h => ?_)
 refine rqT 6 ⟨75, [sI 0 k, e9_2 l, e9_1 w, sp 7 7, sI 8 ret19v.2], [e9_0 ret19v]⟩ (by kernel_rfl) ?_
 refine nsr ?_
 refine rqT 3 ⟨75, [sI 0 k, e9_2 l, e9_1 w, sp 7 7, sI 8 ret19v.2, sI 23 k, s1 24 (.p (.sl t3) l), s1 25 (.pS w)], [e9_0 ret19v]⟩ (by kernel_rfl) ?_
 refine lcq (d := 26) [.d tI, .d (.sl t3), .d (.sl tI)] (fun ret26v => (⟨75, [sI 0 k, e9_2 l, e9_1 w, sp 7 7, sI 8 ret19v.2, (26, [], .tup [.c (.pB ret26v.1), .c (.pI ret26v.2)])], [e9_0 ret19v]⟩ : St)) (by kernel_rfl) Try.call23 (fun _ => by kernel_rfl) (link23 k l w _ h) (fun ret26v h => ?_)
 refine rqT 5 ⟨75, [sI 0 k, e9_2 l, e9_1 w, sp 7 7, sI 8 ret19v.2, sB 9 ret26v.1, sI 10 ret26v.2], [e9_0 ret19v]⟩ (by kernel_rfl) ?_
 refine nn ?_
 refine aw_seq ?_
 refine sr ?_
 refine rqT 3 ⟨75, [e9_1 w, sp 7 7, sI 8 ret19v.2, sB 9 ret26v.1, sI 10 ret26v.2, sI 29 k, s1 30 (.p (.sl t3) l), s1 31 (.pS w)], [e9_0 ret19v]⟩ (by kernel_rfl) ?_
 refine lcq (d := 32) [.d tI, .d (.sl t3), .d (.sl tI)] (fun ret32v => (⟨75, [e9_1 w, sp 7 7, sI 8 ret19v.2, sB 9 ret26v.1, sI 10 ret26v.2, sB 32 ret32v], [e9_0 ret19v]⟩ : St)) (by kernel_rfl) Try.call24 (fun _ => by kernel_rfl) (link24 k l w _ h) (fun ret32v h => ?_)
 refine rqT 1 ⟨75, [e9_1 w, sp 7 7, sI 8 ret19v.2, sB 9 ret26v.1, sI 10 ret26v.2, sB 33 (!ret32v)], [e9_0 ret19v]⟩ (by kernel_rfl) ?_
 refine nn ?_
 refine aw_cond (b := (!ret32v)) (by kernel_rfl) (fun hb => ?_) (fun hb => ?_)
 ·have h := h.1 hb
  refine srn 3 ⟨75, [sB 6 (!decide (ret26v.2 = (0 : Int)))], []⟩ (by kernel_rfl) rfl ?_
  refine aw_ret ?_
  refine thenQ_r ?_
  exact retQ_r (ob := Ts 1 True) _ (by kernel_rfl) (tsI 1 trivial) h
 ·have h := h.2 hb
  refine aw_skip ?_
  refine thenQ_n ?_
  refine aw_seq ?_
  refine srn 2 ⟨75, [e9_1 w, sp 7 7, sI 8 ret19v.2, sB 9 ret26v.1, sB 37 (!decide (ret26v.2 = (0 : Int)))], [e9_0 ret19v]⟩ (by kernel_rfl) rfl ?_
  refine aw_cond (b := (!decide (ret26v.2 = (0 : Int)))) (by kernel_rfl) (fun hb => ?_) (fun hb => ?_)
  ·have h := h.1 hb
   refine srn 1 ⟨75, [sB 6 false], []⟩ (by kernel_rfl) rfl ?_
   refine aw_ret ?_
   refine thenQ_r ?_
   exact retQ_r (ob := Ts 1 True) _ (by kernel_rfl) (tsI 1 trivial) h
  ·have h := h.2 hb
   refine aw_skip ?_
   refine thenQ_n ?_
   refine aw_seq ?_
   refine srn 2 ⟨75, [e9_1 w, sp 7 7, sI 8 ret19v.2, sB 9 ret26v.1, sB 39 (!decide (ret19v.2 = (0 : Int)))], [e9_0 ret19v]⟩ (by kernel_rfl) rfl ?_
   refine aw_cond (b := (!decide (ret19v.2 = (0 : Int)))) (by kernel_rfl) (fun hb => ?_) (fun hb => ?_)
   ·have h := h.1 hb
    refine sr ?_
    refine rq 8 (ob := (Ts 3 (Ti 3 ((decide (ret19v.2 = (1 : Int))) = true → True) (Ts 2 True)))) (st' := (⟨75, [sB 6 ((decide (ret19v.2 = (1 : Int))) && (decide (ret19v.1.1 = (0 : Int))))], []⟩ : St)) (by kernel_rfl) (tsI 3 (tiI 3 (fun _ => trivial) (tsI 2 trivial))) ?_
    refine nn ?_
    refine aw_ret ?_
    refine thenQ_r ?_
    exact retQ_r (ob := Ts 1 True) _ (by kernel_rfl) (tsI 1 trivial) h
   ·have h := h.2 hb
    refine aw_skip ?_
    refine thenQ_n ?_
    refine sr ?_
    refine rqT 2 ⟨75, [sp 7 7, sB 9 ret26v.1, sA 48 [.pI ret19v.1.1, .pI ret19v.1.2.1, .p (.sl (.sl tI)) ret19v.1.2.2.1, .pI ret19v.1.2.2.2.1, .pW ret19v.1.2.2.2.2], s1 49 (.pS w)], [e9_0 ret19v]⟩ (by kernel_rfl) ?_
    refine lcq (d := 50) [.d (.pr tI (.pr tI (.pr (.sl (.sl tI)) (.pr tI (.int .u32))))), .d (.sl tI)] (fun ret50v => (⟨75, [sp 7 7, sB 9 ret26v.1, (50, [], .tup [.c (.pI ret50v.1), .c (.pB ret50v.2.1), .c (.pI ret50v.2.2)])], [e9_0 ret19v]⟩ : St)) (by kernel_rfl) Try.call22 (fun _ => by kernel_rfl) (link22 ret19v.1 w _ h) (fun ret50v h => ?_)
    refine rqT 7 ⟨75, [sp 7 7, sB 9 ret26v.1, sB 12 ret50v.2.1, sI 13 ret50v.2.2], [e9_0 ret19v]⟩ (by kernel_rfl) ?_
    refine nsr ?_
    refine rqT 1 ⟨75, [sp 7 7, sB 9 ret26v.1, sB 12 ret50v.2.1, sI 13 ret50v.2.2, sA 55 [.pI ret19v.1.1, .pI ret19v.1.2.1, .p (.sl (.sl tI)) ret19v.1.2.2.1, .pI ret19v.1.2.2.2.1, .pW ret19v.1.2.2.2.2]], [e9_0 ret19v]⟩ (by kernel_rfl) ?_
    refine lcq (d := 56) [.d (.pr tI (.pr tI (.pr (.sl (.sl tI)) (.pr tI (.int .u32)))))] (fun ret56v => (⟨75, [sp 7 7, sB 9 ret26v.1, sB 12 ret50v.2.1, sI 13 ret50v.2.2, (56, [], .tup [.agg [.pI ret56v.1.1, .pI ret56v.1.2.1, .p (.sl (.sl tI)) ret56v.1.2.2.1, .pI ret56v.1.2.2.2.1, .pW ret56v.1.2.2.2.2], .c (.pI ret56v.2)])], [e9_0 ret19v]⟩ : St)) (by kernel_rfl) Try.call29 (fun _ => by kernel_rfl) (link29 ret19v.1 _ h) (fun ret56v h => ?_)
    refine rqT 6 ⟨75, [sp 7 7, sB 9 ret26v.1, sB 12 ret50v.2.1, sI 13 ret50v.2.2, sp 14 14, sI 15 ret56v.2], [e9_0 ret19v, hB 14 [.pI ret56v.1.1, .pI ret56v.1.2.1, .p (.sl (.sl tI)) ret56v.1.2.2.1, .pI ret56v.1.2.2.2.1, .pW ret56v.1.2.2.2.2]]⟩ (by kernel_rfl) ?_
    refine nsr ?_
    refine rq 14 (ob := (Ts 3 (Ti 2 ((decide (ret50v.2.2 = (0 : Int))) = true → True) (Ts 2 (Ti 3 (((decide (ret50v.2.2 = (0 : Int))) && (decide (ret56v.2 = (0 : Int)))) = true → True) (Ts 2 (Ti 2 ((((decide (ret50v.2.2 = (0 : Int))) && (decide (ret56v.2 = (0 : Int)))) && (ret26v.1 == ret50v.2.1)) = true → True) True))))))) (st' := (⟨75, [sB 70 (((decide (ret50v.2.2 = (0 : Int))) && (decide (ret56v.2 = (0 : Int)))) && (ret26v.1 == ret50v.2.1)), (71, [(70, true)], .v (.agg [.pI ret56v.1.1, .pI ret56v.1.2.1, .p (.sl (.sl tI)) ret56v.1.2.2.1, .pI ret56v.1.2.2.2.1, .pW ret56v.1.2.2.2.2])), (72, [(70, true)], .v (.agg [.pI ret19v.1.1, .pI ret19v.1.2.1, .p (.sl (.sl tI)) ret19v.1.2.2.1, .pI ret19v.1.2.2.2.1, .pW ret19v.1.2.2.2.2]))], []⟩ : St)) (by kernel_rfl) (tsI 3 (tiI 2 (fun _ => trivial) (tsI 2 (tiI 3 (fun _ => trivial) (tsI 2 (tiI 2 (fun _ => trivial) trivial)))))) ?_
    refine awl_callk (p := [(70, true)]) (l := [toV1 (.pr tI (.pr tI (.pr (.sl (.sl tI)) (.pr tI (.int .u32))))) ret56v.1, toV1 (.pr tI (.pr tI (.pr (.sl (.sl tI)) (.pr tI (.int .u32))))) ret19v.1]) (cl := []) false [.d (.pr tI (.pr tI (.pr (.sl (.sl tI)) (.pr tI (.int .u32))))), .d (.pr tI (.pr tI (.pr (.sl (.sl tI)) (.pr tI (.int .u32)))))] [70, 73] [] (fun (ret73v : Bool) => K ((((decide (ret50v.2.2 = (0 : Int))) && (decide (ret56v.2 = (0 : Int)))) && (ret26v.1 == ret50v.2.1)) && ret73v)) (fun ret73v => [toV1 .bool ret73v]) (fun ret73v => (⟨75, [sB 70 (((decide (ret50v.2.2 = (0 : Int))) && (decide (ret56v.2 = (0 : Int)))) && (ret26v.1 == ret50v.2.1)), (73, [(70, true)], .v (.c (.pB ret73v)))], []⟩ : St)) (by kernel_rfl) rfl (by kernel_rfl) rfl (by kernel_rfl) Try.call30 (by kernel_rfl) (fun ret73v => by kernel_rfl) (fun e => by cases e) (fun hg => link30 ret56v.1 ret19v.1 _ (by have := gcall_T h (show (((decide (ret50v.2.2 = (0 : Int))) && (decide (ret56v.2 = (0 : Int)))) && (ret26v.1 == ret50v.2.1)) = true from hg); exact this)) (fun hg => ⟨false, by have := gcall_F h (show (((decide (ret50v.2.2 = (0 : Int))) && (decide (ret56v.2 = (0 : Int)))) && (ret26v.1 == ret50v.2.1)) = false from hg); exact this⟩) (fun ret73v h => ?_)
    refine rqT 2 ⟨75, [sB 6 ((((decide (ret50v.2.2 = (0 : Int))) && (decide (ret56v.2 = (0 : Int)))) && (ret26v.1 == ret50v.2.1)) && ret73v)], []⟩ (by kernel_rfl) ?_
    refine nn ?_
    refine aw_ret ?_
    exact retQ_r (ob := Ts 1 True) _ (by kernel_rfl) (tsI 1 trivial) h
end Dec
