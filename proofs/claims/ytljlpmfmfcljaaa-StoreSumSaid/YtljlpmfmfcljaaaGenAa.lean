/-
Printed by dec2.py: of each function its plain demand, and that the demand gives the contract.
-/
import Derived.Test.YtljlpmfmfcljaaaProg
import Derived.Test.YtljlpmfmfcljaaaDecRh
set_option linter.unusedSimpArgs false
set_option linter.unusedVariables false
set_option maxRecDepth 100000
namespace Dec
open Go Go.RowKit Go.Proofs
abbrev e8_0 (b : LI) : Nat × Path × AV := s1 7 (.p (.sl (.int .u8)) b)
abbrev e8_1 (x : Int) (b : LI) (v9 : Int) : Nat × Path × AV := sI 3 ((x + (b.getD (v9).toNat (0 : Int))) % (257 : Int))
abbrev e8_2 (b : LI) : Nat × Path × AV := sI 8 (b.length : Int)
-- coppicer/store.Sum
def VC8_k1 (K : LI → Prop) (x : Int) (yv : Int) : Prop :=
  ((0 ≤ x ∧ 0 ≤ (8 : Int)) ∧ (0 ≤ yv ∧ 0 ≤ (8 : Int)) ∧ K [(IntKind.wrap .u8 x), (IntKind.wrap .u8 (bShr .i64 x (8 : Int))), (IntKind.wrap .u8 yv), (IntKind.wrap .u8 (bShr .i64 yv (8 : Int)))])
def VC8_l1 (b : LI) (K : LI → Prop) (x : Int) (yv : Int) (v9 : Int) (X1 : Int × Int × Int → Prop) : Prop :=
  (((decide (v9 < (b.length : Int))) = true → (inIdx v9 b.length ∧ (InR (x + (b.getD (v9).toNat (0 : Int))) ∧ (0 ≤ (x + (b.getD (v9).toNat (0 : Int))) ∧ 0 < (257 : Int)) ∧ (InR (yv + ((x + (b.getD (v9).toNat (0 : Int))) % (257 : Int))) ∧ (0 ≤ (yv + ((x + (b.getD (v9).toNat (0 : Int))) % (257 : Int))) ∧ 0 < (257 : Int)) ∧ (InR (v9 + (1 : Int)) ∧ X1 (((x + (b.getD (v9).toNat (0 : Int))) % (257 : Int)), ((yv + ((x + (b.getD (v9).toNat (0 : Int))) % (257 : Int))) % (257 : Int)), (v9 + (1 : Int)))))))) ∧ ((decide (v9 < (b.length : Int))) = false → VC8_k1 K x yv))
def VC8 (b : LI) (K : LI → Prop) : Prop :=
  Loop (σ := Int × Int × Int) (fun s X => VC8_l1 b K s.1 s.2.1 s.2.2 X) ((0 : Int), (0 : Int), (0 : Int))
set_option maxHeartbeats 4000000 in
theorem link8 (b : LI) (K : LI → Prop) (h : VC8 b K) : ACallsO Try.prog 8 [toV1 (.sl (.int .u8)) b] 5 (.int .u8) K := by
 refine acallsO_of_aw 2 Try.func8 rfl rfl rfl ?_
 unfold VC8 at h
 refine sr ?_
 refine rqT 1 ⟨34, [s1 0 (.p (.sl (.int .u8)) b)], []⟩ (by kernel_rfl) ?_
 refine nsr ?_
 refine rqT 2 ⟨34, [s1 0 (.p (.sl (.int .u8)) b), sI 3 (0 : Int), sI 4 (0 : Int)], []⟩ (by kernel_rfl) ?_
 refine nn ?_
 refine aw_seq ?_
 refine srn 3 ⟨34, [sI 3 (0 : Int), sI 4 (0 : Int), e8_0 b, e8_2 b, sI 9 (0 : Int)], []⟩ (by kernel_rfl) rfl ?_
 refine withJoin (σ := Int × Int) (fun s => (⟨34, [sI 3 s.1, sI 4 s.2], []⟩ : St)) (fun s => VC8_k1 K s.1 s.2) (fun s h => ?_) (fun rest1 => ?_)
 ·obtain ⟨x, yv⟩ := s
  have h : VC8_k1 K x yv := h
  unfold VC8_k1 at h
  refine thenQ_n ?_
  refine sr ?_
  obtain ⟨o1, o2, h⟩ := h
  refine rq 12 (ob := (Ts 3 ((0 ≤ x ∧ 0 ≤ (8 : Int)) ∧ Ts 4 ((0 ≤ yv ∧ 0 ≤ (8 : Int)) ∧ Ts 3 True)))) (st' := (⟨34, [s1 2 (.own 33)], [hA 33 5 (.int .u8) [(IntKind.wrap .u8 x), (IntKind.wrap .u8 (bShr .i64 x (8 : Int))), (IntKind.wrap .u8 yv), (IntKind.wrap .u8 (bShr .i64 yv (8 : Int)))]]⟩ : St)) (by kernel_rfl) (tsI 3 (⟨o1, tsI 4 ⟨o2, tsI 3 trivial⟩⟩)) ?_
  refine nn ?_
  refine aw_ret ?_
  exact ⟨33, _, by kernel_rfl, by kernel_rfl, h⟩
 ·refine aw_block ?_
  refine aw_loop (σ := Int × Int × Int) (fun s => (⟨34, [sI 3 s.1, sI 4 s.2.1, e8_0 b, e8_2 b, sI 9 s.2.2], []⟩ : St)) (fun s X => VC8_l1 b K s.1 s.2.1 s.2.2 X) (s0 := ((0 : Int), (0 : Int), (0 : Int))) (fun s X1 h => ?_) h
  obtain ⟨x, yv, v9⟩ := s
  have h : VC8_l1 b K x yv v9 X1 := h
  unfold VC8_l1 at h
  refine srn 1 ⟨34, [sI 3 x, sI 4 yv, e8_0 b, e8_2 b, sI 9 v9, sB 10 (decide (v9 < (b.length : Int)))], []⟩ (by kernel_rfl) rfl ?_
  refine aw_seq ?_
  refine aw_cond (b := (decide (v9 < (b.length : Int)))) (by kernel_rfl) (fun hb => ?_) (fun hb => ?_)
  ·have h := h.1 hb
   refine aw_skip ?_
   refine thenQ_n ?_
   refine aw_seq ?_
   refine aw_block ?_
   refine sr ?_
   obtain ⟨o1, h⟩ := h
   refine rq 3 (ob := (inIdx v9 b.length ∧ Ts 2 True)) (st' := (⟨34, [sI 3 x, sI 4 yv, s1 6 (.pY (b.getD (v9).toNat (0 : Int))), e8_0 b, e8_2 b, sI 9 v9], []⟩ : St)) (by kernel_rfl) (⟨o1, tsI 2 trivial⟩) ?_
   refine nsr ?_
   obtain ⟨o1, o2, h⟩ := h
   refine rq 6 (ob := (Ts 3 (InR (x + (b.getD (v9).toNat (0 : Int))) ∧ (0 ≤ (x + (b.getD (v9).toNat (0 : Int))) ∧ 0 < (257 : Int)) ∧ Ts 1 True))) (st' := (⟨34, [e8_1 x b v9, sI 4 yv, e8_0 b, e8_2 b, sI 9 v9], []⟩ : St)) (by kernel_rfl) (tsI 3 (⟨o1, ⟨o2, tsI 1 trivial⟩⟩)) ?_
   refine nn ?_
   refine aw_region ?_
   obtain ⟨o1, o2, h⟩ := h
   refine rq 5 (ob := (Ts 2 (InR (yv + ((x + (b.getD (v9).toNat (0 : Int))) % (257 : Int))) ∧ (0 ≤ (yv + ((x + (b.getD (v9).toNat (0 : Int))) % (257 : Int))) ∧ 0 < (257 : Int)) ∧ Ts 1 True))) (st' := (⟨34, [e8_1 x b v9, sI 4 ((yv + ((x + (b.getD (v9).toNat (0 : Int))) % (257 : Int))) % (257 : Int)), e8_0 b, e8_2 b, sI 9 v9], []⟩ : St)) (by kernel_rfl) (tsI 2 (⟨o1, ⟨o2, tsI 1 trivial⟩⟩)) ?_
   refine awl_nil ?_
   refine blockQ_n ?_
   refine thenQ_n ?_
   refine aw_region ?_
   obtain ⟨o1, h⟩ := h
   refine rq 2 (ob := (InR (v9 + (1 : Int)) ∧ Ts 1 True)) (st' := (⟨34, [e8_1 x b v9, sI 4 ((yv + ((x + (b.getD (v9).toNat (0 : Int))) % (257 : Int))) % (257 : Int)), e8_0 b, e8_2 b, sI 9 (v9 + (1 : Int))], []⟩ : St)) (by kernel_rfl) (⟨o1, tsI 1 trivial⟩) ?_
   refine awl_nil ?_
   exact thenQ_n ⟨(((x + (b.getD (v9).toNat (0 : Int))) % (257 : Int)), ((yv + ((x + (b.getD (v9).toNat (0 : Int))) % (257 : Int))) % (257 : Int)), (v9 + (1 : Int))), rfl, h⟩
  ·have h := h.2 hb
   refine cpr (st' := (⟨34, [sI 3 x, sI 4 yv], []⟩ : St)) (by kernel_rfl) ?_
   refine aw_exit ?_
   refine thenQ_x ?_
   refine thenQ_x ?_
   refine blockQ_hit ?_
   exact rest1 (x, yv) h
abbrev e9_0 (a : LI) : Nat × Path × AV := s1 0 (.p (.sl (.int .u8)) a)
abbrev e9_1 (b : LI) : Nat × Path × AV := s1 1 (.p (.sl (.int .u8)) b)
-- coppicer/coppicerref.Bytes
def VC9_k1 (K : Bool → Prop) : Prop :=
  K true
def VC9_l1 (a : LI) (b : LI) (K : Bool → Prop) (i : Int) (X1 : Int → Prop) : Prop :=
  (((decide (i < (a.length : Int))) = true → (inIdx i a.length ∧ inIdx i b.length ∧ (((!decide ((a.getD (i).toNat (0 : Int)) = (b.getD (i).toNat (0 : Int)))) = true → K false) ∧ ((!decide ((a.getD (i).toNat (0 : Int)) = (b.getD (i).toNat (0 : Int)))) = false → (InR (i + (1 : Int)) ∧ X1 (i + (1 : Int))))))) ∧ ((decide (i < (a.length : Int))) = false → VC9_k1 K))
def VC9 (a : LI) (b : LI) (K : Bool → Prop) : Prop :=
  (((!decide ((a.length : Int) = (b.length : Int))) = true → K false) ∧ ((!decide ((a.length : Int) = (b.length : Int))) = false → Loop (σ := Int) (fun s X => VC9_l1 a b K s X) (0 : Int)))
set_option maxHeartbeats 4000000 in
theorem link9 (a : LI) (b : LI) (K : Bool → Prop) (h : VC9 a b K) : ACalls Try.prog 9 [toV1 (.sl (.int .u8)) a, toV1 (.sl (.int .u8)) b] (fun res => ∃ y, res = (fun y => [toV1 .bool y]) y ∧ K y) := by
 refine acalls_of_aw [.bool] [.t 4] Try.func9 rfl rfl rfl ?_
 unfold VC9 at h
 refine srn 1 ⟨26, [e9_0 a, e9_1 b], []⟩ (by kernel_rfl) rfl ?_
 refine aw_seq ?_
 refine srn 5 ⟨26, [e9_0 a, e9_1 b, sB 10 (!decide ((a.length : Int) = (b.length : Int)))], []⟩ (by kernel_rfl) rfl ?_
 refine aw_cond (b := (!decide ((a.length : Int) = (b.length : Int)))) (by kernel_rfl) (fun hb => ?_) (fun hb => ?_)
 ·have h := h.1 hb
  refine srn 1 ⟨26, [sB 4 false], []⟩ (by kernel_rfl) rfl ?_
  refine aw_ret ?_
  refine thenQ_r ?_
  exact retQ_r (ob := Ts 1 True) _ (by kernel_rfl) (tsI 1 trivial) h
 ·have h := h.2 hb
  refine aw_skip ?_
  refine thenQ_n ?_
  refine aw_seq ?_
  refine srn 1 ⟨26, [e9_0 a, e9_1 b, sI 5 (0 : Int)], []⟩ (by kernel_rfl) rfl ?_
  refine withJoin (σ := Unit) (fun s => (⟨26, [], []⟩ : St)) (fun s => VC9_k1 K) (fun s h => ?_) (fun rest1 => ?_)
  ·have h : VC9_k1 K := h
   unfold VC9_k1 at h
   refine thenQ_n ?_
   refine srn 1 ⟨26, [sB 4 true], []⟩ (by kernel_rfl) rfl ?_
   refine aw_ret ?_
   exact retQ_r (ob := Ts 1 True) _ (by kernel_rfl) (tsI 1 trivial) h
  ·refine aw_block ?_
   refine aw_loop (σ := Int) (fun s => (⟨26, [e9_0 a, e9_1 b, sI 5 s], []⟩ : St)) (fun s X => VC9_l1 a b K s X) (s0 := (0 : Int)) (fun i X1 h => ?_) h
   have h : VC9_l1 a b K i X1 := h
   unfold VC9_l1 at h
   refine aw_seq ?_
   refine srn 4 ⟨26, [e9_0 a, e9_1 b, sI 5 i, sB 14 (decide (i < (a.length : Int)))], []⟩ (by kernel_rfl) rfl ?_
   refine aw_cond (b := (decide (i < (a.length : Int)))) (by kernel_rfl) (fun hb => ?_) (fun hb => ?_)
   ·have h := h.1 hb
    refine aw_skip ?_
    refine thenQ_n ?_
    refine aw_seq ?_
    refine aw_block ?_
    refine aw_seq ?_
    refine awd_begin [] (by kernel_rfl) ?_
    obtain ⟨o1, o2, h⟩ := h
    refine drq (by kernel_rfl) [0, 1, 2, 3, 4, 5, 6, 7, 8] (ob := (Ts 2 (inIdx i a.length ∧ Ts 3 (inIdx i b.length ∧ Ts 2 True)))) (done' := [8, 7, 6, 5, 4, 3, 2, 1, 0]) (st' := (⟨26, [e9_0 a, e9_1 b, sI 5 i, sB 25 (!decide ((a.getD (i).toNat (0 : Int)) = (b.getD (i).toNat (0 : Int))))], []⟩ : St)) (by kernel_rfl) (tsI 2 (⟨o1, tsI 3 ⟨o2, tsI 2 trivial⟩⟩)) ?_
    refine awd_done (by kernel_rfl) ?_
    refine thenQ_n ?_
    refine aw_cond (b := (!decide ((a.getD (i).toNat (0 : Int)) = (b.getD (i).toNat (0 : Int))))) (by kernel_rfl) (fun hb => ?_) (fun hb => ?_)
    ·have h := h.1 hb
     refine srn 1 ⟨26, [sB 4 false], []⟩ (by kernel_rfl) rfl ?_
     refine aw_ret ?_
     refine blockQ_r ?_
     refine thenQ_r ?_
     refine thenQ_r ?_
     refine blockQ_r ?_
     refine thenQ_r ?_
     exact retQ_r (ob := Ts 1 True) _ (by kernel_rfl) (tsI 1 trivial) h
    ·have h := h.2 hb
     refine aw_skip ?_
     refine blockQ_n ?_
     refine thenQ_n ?_
     refine aw_region ?_
     obtain ⟨o1, h⟩ := h
     refine rq 3 (ob := (Ts 1 (InR (i + (1 : Int)) ∧ Ts 1 True))) (st' := (⟨26, [e9_0 a, e9_1 b, sI 5 (i + (1 : Int))], []⟩ : St)) (by kernel_rfl) (tsI 1 ⟨o1, tsI 1 trivial⟩) ?_
     refine awl_nil ?_
     exact thenQ_n ⟨(i + (1 : Int)), rfl, h⟩
   ·have h := h.2 hb
    refine cpr (st' := (⟨26, [], []⟩ : St)) (by kernel_rfl) ?_
    refine aw_exit ?_
    refine thenQ_x ?_
    refine thenQ_x ?_
    refine blockQ_hit ?_
    exact rest1 () h
abbrev e3_0 (b : LI) (k : Int) : Nat × Path × Con := hA 38 5 (.int .u8) (((([] : List Int) ++ b).set (((k % ((b.length : Int) - (1 : Int)))).toNat) ((([] : List Int) ++ b).getD ((((k % ((b.length : Int) - (1 : Int))) + (1 : Int))).toNat) (0 : Int))).set ((((k % ((b.length : Int) - (1 : Int))) + (1 : Int))).toNat) ((([] : List Int) ++ b).getD (((k % ((b.length : Int) - (1 : Int)))).toNat) (0 : Int)))
abbrev e3_1 (b : LI) (k : Int) : Nat × Path × AV := s1 52 (.pY ((([] : List Int) ++ b).getD (((k % ((b.length : Int) - (1 : Int)))).toNat) (0 : Int)))
abbrev e3_2 (b : LI) : Nat × Path × AV := s1 0 (.p (.sl (.int .u8)) b)
abbrev e3_3 (ret10v : LI) : Nat × Path × Con := hA 10 5 (.int .u8) ret10v
abbrev e3_4 (b : LI) (k : Int) : Nat × Path × AV := s1 48 (.pY ((([] : List Int) ++ b).getD ((((k % ((b.length : Int) - (1 : Int))) + (1 : Int))).toNat) (0 : Int)))
abbrev e3_5 (k : Int) (b : LI) : Nat × Path × AV := sI 7 (k % ((b.length : Int) - (1 : Int)))
abbrev e3_6 (b : LI) (k : Int) : Nat × Path × AV := sB 68 (decide ((b.getD ((k % ((b.length : Int) - (1 : Int)))).toNat (0 : Int)) = (b.getD (((k % ((b.length : Int) - (1 : Int))) + (1 : Int))).toNat (0 : Int))))
abbrev e3_7 (k : Int) (b : LI) : Nat × Path × AV := sI 43 ((k % ((b.length : Int) - (1 : Int))) + (1 : Int))
abbrev e3_8 (b : LI) (k : Int) : Nat × Path × Con := hA 38 5 (.int .u8) ((([] : List Int) ++ b).set (((k % ((b.length : Int) - (1 : Int)))).toNat) ((([] : List Int) ++ b).getD ((((k % ((b.length : Int) - (1 : Int))) + (1 : Int))).toNat) (0 : Int)))
abbrev e3_9 (b : LI) : Nat × Path × Con := hA 38 5 (.int .u8) (([] : List Int) ++ b)
abbrev e3_10 : Nat × Path × AV := s1 5 (.own 10)
abbrev e3_11 (k : Int) : Nat × Path × AV := s1 1 (.p (.int .u16) k)
abbrev e3_12 (k : Int) (b : LI) : Nat × Path × AV := sI 40 (k % ((b.length : Int) - (1 : Int)))
abbrev e3_13 : Nat × Path × AV := s1 8 (.own 38)
abbrev e3_14 (k : Int) (b : LI) : Nat × Path × AV := s1 47 (.el 38 ((((k % ((b.length : Int) - (1 : Int))) + (1 : Int))).toNat) 1)
abbrev e3_15 : Nat × Path × AV := s1 41 (.own 38)
abbrev e3_16 : Nat × Path × AV := s1 39 (.own 38)
abbrev e3_n0 : List Nat := [13, 9, 12, 11, 10, 8, 7, 6, 5, 4, 3, 2, 1, 0]
-- coppicer/coppicerkeep.StoreSum
def VC3 (b : LI) (k : Int) (K : Bool → Prop) : Prop :=
  VC8 b (fun (ret10v : LI) => (roomW 1 ([(0 : Int), (0 : Int), (0 : Int)].length + b.length) ∧ VC8 ([(0 : Int), (0 : Int), (0 : Int)] ++ b) (fun (ret14v : LI) => (((decide ((1048576 : Int) < (b.length : Int))) = true → K true) ∧ ((decide ((1048576 : Int) < (b.length : Int))) = false → gcall (α := Bool) (!(!decide ((ret10v.length : Int) = (4 : Int)))) (VC9 ret10v ret14v) false (fun (ret24v : Bool) => ((((!decide ((ret10v.length : Int) = (4 : Int))) || (!ret24v)) = true → K false) ∧ (((!decide ((ret10v.length : Int) = (4 : Int))) || (!ret24v)) = false → (((decide ((b.length : Int) < (2 : Int))) = true → K true) ∧ ((decide ((b.length : Int) < (2 : Int))) = false → (InR ((b.length : Int) - (1 : Int)) ∧ (0 ≤ k ∧ 0 < ((b.length : Int) - (1 : Int))) ∧ (roomW 1 (([] : List Int).length + b.length) ∧ (InR ((k % ((b.length : Int) - (1 : Int))) + (1 : Int)) ∧ InR ((k % ((b.length : Int) - (1 : Int))) + (1 : Int)) ∧ inIdx ((k % ((b.length : Int) - (1 : Int))) + (1 : Int)) (([] : List Int) ++ b).length ∧ inIdx (k % ((b.length : Int) - (1 : Int))) (([] : List Int) ++ b).length ∧ (inIdx (k % ((b.length : Int) - (1 : Int))) (([] : List Int) ++ b).length ∧ (inIdx ((k % ((b.length : Int) - (1 : Int))) + (1 : Int)) ((([] : List Int) ++ b).set (((k % ((b.length : Int) - (1 : Int)))).toNat) ((([] : List Int) ++ b).getD ((((k % ((b.length : Int) - (1 : Int))) + (1 : Int))).toNat) (0 : Int))).length ∧ (inIdx (k % ((b.length : Int) - (1 : Int))) b.length ∧ InR ((k % ((b.length : Int) - (1 : Int))) + (1 : Int)) ∧ inIdx ((k % ((b.length : Int) - (1 : Int))) + (1 : Int)) b.length ∧ VC8 (((([] : List Int) ++ b).set (((k % ((b.length : Int) - (1 : Int)))).toNat) ((([] : List Int) ++ b).getD ((((k % ((b.length : Int) - (1 : Int))) + (1 : Int))).toNat) (0 : Int))).set ((((k % ((b.length : Int) - (1 : Int))) + (1 : Int))).toNat) ((([] : List Int) ++ b).getD (((k % ((b.length : Int) - (1 : Int)))).toNat) (0 : Int))) (fun (ret56v : LI) => VC9 ret56v ret10v (fun (ret58v : Bool) => K (ret58v == (decide ((b.getD ((k % ((b.length : Int) - (1 : Int)))).toNat (0 : Int)) = (b.getD (((k % ((b.length : Int) - (1 : Int))) + (1 : Int))).toNat (0 : Int)))))))))))))))))))))))
set_option maxHeartbeats 4000000 in
theorem link3 (b : LI) (k : Int) (K : Bool → Prop) (h : VC3 b k K) : ACalls Try.prog 3 [toV1 (.sl (.int .u8)) b, toV1 (.int .u16) k] (fun res => ∃ y, res = (fun y => [toV1 .bool y]) y ∧ K y) := by
 refine acalls_of_aw [.bool] [.t 4] Try.func3 rfl rfl rfl ?_
 unfold VC3 at h
 refine sr ?_
 refine rqT 1 ⟨70, [e3_2 b, e3_11 k], []⟩ (by kernel_rfl) ?_
 refine nsr ?_
 refine rqT 1 ⟨70, [e3_2 b, e3_11 k, s1 9 (.p (.sl (.int .u8)) b)], []⟩ (by kernel_rfl) ?_
 refine awl_callOk (e := 5) (t := (.int .u8)) (l := [toV1 (.sl (.int .u8)) b]) (cl := []) false [.d (.sl (.int .u8))] [0, 1, 10] [10] (fun (ret10v : LI) => (roomW 1 ([(0 : Int), (0 : Int), (0 : Int)].length + b.length) ∧ VC8 ([(0 : Int), (0 : Int), (0 : Int)] ++ b) (fun (ret14v : LI) => (((decide ((1048576 : Int) < (b.length : Int))) = true → K true) ∧ ((decide ((1048576 : Int) < (b.length : Int))) = false → gcall (α := Bool) (!(!decide ((ret10v.length : Int) = (4 : Int)))) (VC9 ret10v ret14v) false (fun (ret24v : Bool) => ((((!decide ((ret10v.length : Int) = (4 : Int))) || (!ret24v)) = true → K false) ∧ (((!decide ((ret10v.length : Int) = (4 : Int))) || (!ret24v)) = false → (((decide ((b.length : Int) < (2 : Int))) = true → K true) ∧ ((decide ((b.length : Int) < (2 : Int))) = false → (InR ((b.length : Int) - (1 : Int)) ∧ (0 ≤ k ∧ 0 < ((b.length : Int) - (1 : Int))) ∧ (roomW 1 (([] : List Int).length + b.length) ∧ (InR ((k % ((b.length : Int) - (1 : Int))) + (1 : Int)) ∧ InR ((k % ((b.length : Int) - (1 : Int))) + (1 : Int)) ∧ inIdx ((k % ((b.length : Int) - (1 : Int))) + (1 : Int)) (([] : List Int) ++ b).length ∧ inIdx (k % ((b.length : Int) - (1 : Int))) (([] : List Int) ++ b).length ∧ (inIdx (k % ((b.length : Int) - (1 : Int))) (([] : List Int) ++ b).length ∧ (inIdx ((k % ((b.length : Int) - (1 : Int))) + (1 : Int)) ((([] : List Int) ++ b).set (((k % ((b.length : Int) - (1 : Int)))).toNat) ((([] : List Int) ++ b).getD ((((k % ((b.length : Int) - (1 : Int))) + (1 : Int))).toNat) (0 : Int))).length ∧ (inIdx (k % ((b.length : Int) - (1 : Int))) b.length ∧ InR ((k % ((b.length : Int) - (1 : Int))) + (1 : Int)) ∧ inIdx ((k % ((b.length : Int) - (1 : Int))) + (1 : Int)) b.length ∧ VC8 (((([] : List Int) ++ b).set (((k % ((b.length : Int) - (1 : Int)))).toNat) ((([] : List Int) ++ b).getD ((((k % ((b.length : Int) - (1 : Int))) + (1 : Int))).toNat) (0 : Int))).set ((((k % ((b.length : Int) - (1 : Int))) + (1 : Int))).toNat) ((([] : List Int) ++ b).getD (((k % ((b.length : Int) - (1 : Int)))).toNat) (0 : Int))) (fun (ret56v : LI) => VC9 ret56v ret10v (fun (ret58v : Bool) => K (ret58v == (decide ((b.getD ((k % ((b.length : Int) - (1 : Int)))).toNat (0 : Int)) = (b.getD (((k % ((b.length : Int) - (1 : Int))) + (1 : Int))).toNat (0 : Int))))))))))))))))))))))) (fun ret10v => (⟨70, [e3_2 b, e3_11 k, s1 10 (.own 10)], [e3_3 ret10v]⟩ : St)) rfl rfl (by kernel_rfl) rfl (by kernel_rfl) Try.call8 (by kernel_rfl) (fun e => by cases e) (fun ret10v => by kernel_rfl) (link8 b _ h) (fun ret10v h => ?_)
 refine rqT 1 ⟨70, [e3_2 b, e3_11 k, e3_10], [e3_3 ret10v]⟩ (by kernel_rfl) ?_
 refine nsr ?_
 obtain ⟨o1, h⟩ := h
 refine rq 3 (ob := (Ts 2 (roomW 1 ([(0 : Int), (0 : Int), (0 : Int)].length + b.length) ∧ True))) (st' := (⟨70, [e3_2 b, e3_11 k, e3_10, s1 13 (.own 13)], [e3_3 ret10v, hA 13 5 (.int .u8) ([(0 : Int), (0 : Int), (0 : Int)] ++ b)]⟩ : St)) (by kernel_rfl) (tsI 2 ⟨o1, trivial⟩) ?_
 refine awl_callOk (e := 5) (t := (.int .u8)) (l := [toV1 (.sl (.int .u8)) ([(0 : Int), (0 : Int), (0 : Int)] ++ b)]) (cl := []) true [.d (.sl (.int .u8))] [0, 1, 5, 14] [10, 14] (fun (ret14v : LI) => (((decide ((1048576 : Int) < (b.length : Int))) = true → K true) ∧ ((decide ((1048576 : Int) < (b.length : Int))) = false → gcall (α := Bool) (!(!decide ((ret10v.length : Int) = (4 : Int)))) (VC9 ret10v ret14v) false (fun (ret24v : Bool) => ((((!decide ((ret10v.length : Int) = (4 : Int))) || (!ret24v)) = true → K false) ∧ (((!decide ((ret10v.length : Int) = (4 : Int))) || (!ret24v)) = false → (((decide ((b.length : Int) < (2 : Int))) = true → K true) ∧ ((decide ((b.length : Int) < (2 : Int))) = false → (InR ((b.length : Int) - (1 : Int)) ∧ (0 ≤ k ∧ 0 < ((b.length : Int) - (1 : Int))) ∧ (roomW 1 (([] : List Int).length + b.length) ∧ (InR ((k % ((b.length : Int) - (1 : Int))) + (1 : Int)) ∧ InR ((k % ((b.length : Int) - (1 : Int))) + (1 : Int)) ∧ inIdx ((k % ((b.length : Int) - (1 : Int))) + (1 : Int)) (([] : List Int) ++ b).length ∧ inIdx (k % ((b.length : Int) - (1 : Int))) (([] : List Int) ++ b).length ∧ (inIdx (k % ((b.length : Int) - (1 : Int))) (([] : List Int) ++ b).length ∧ (inIdx ((k % ((b.length : Int) - (1 : Int))) + (1 : Int)) ((([] : List Int) ++ b).set (((k % ((b.length : Int) - (1 : Int)))).toNat) ((([] : List Int) ++ b).getD ((((k % ((b.length : Int) - (1 : Int))) + (1 : Int))).toNat) (0 : Int))).length ∧ (inIdx (k % ((b.length : Int) - (1 : Int))) b.length ∧ InR ((k % ((b.length : Int) - (1 : Int))) + (1 : Int)) ∧ inIdx ((k % ((b.length : Int) - (1 : Int))) + (1 : Int)) b.length ∧ VC8 (((([] : List Int) ++ b).set (((k % ((b.length : Int) - (1 : Int)))).toNat) ((([] : List Int) ++ b).getD ((((k % ((b.length : Int) - (1 : Int))) + (1 : Int))).toNat) (0 : Int))).set ((((k % ((b.length : Int) - (1 : Int))) + (1 : Int))).toNat) ((([] : List Int) ++ b).getD (((k % ((b.length : Int) - (1 : Int)))).toNat) (0 : Int))) (fun (ret56v : LI) => VC9 ret56v ret10v (fun (ret58v : Bool) => K (ret58v == (decide ((b.getD ((k % ((b.length : Int) - (1 : Int)))).toNat (0 : Int)) = (b.getD (((k % ((b.length : Int) - (1 : Int))) + (1 : Int))).toNat (0 : Int))))))))))))))))))))) (fun ret14v => (⟨70, [e3_2 b, e3_11 k, e3_10, s1 14 (.own 14)], [e3_3 ret10v, hA 14 5 (.int .u8) ret14v]⟩ : St)) rfl rfl (by kernel_rfl) rfl (by kernel_rfl) Try.call8 (by kernel_rfl) (fun _ => rfl) (fun ret14v => by kernel_rfl) (link8 ([(0 : Int), (0 : Int), (0 : Int)] ++ b) _ h) (fun ret14v h => ?_)
 refine rqT 1 ⟨70, [e3_2 b, e3_11 k, e3_10, s1 6 (.own 14)], [e3_3 ret10v, hA 14 5 (.int .u8) ret14v]⟩ (by kernel_rfl) ?_
 refine nn ?_
 refine aw_seq ?_
 refine srn 3 ⟨70, [e3_2 b, e3_11 k, e3_10, s1 6 (.own 14), sB 17 (decide ((1048576 : Int) < (b.length : Int)))], [e3_3 ret10v, hA 14 5 (.int .u8) ret14v]⟩ (by kernel_rfl) rfl ?_
 refine aw_cond (b := (decide ((1048576 : Int) < (b.length : Int)))) (by kernel_rfl) (fun hb => ?_) (fun hb => ?_)
 ·have h := h.1 hb
  refine srn 1 ⟨70, [sB 4 true], []⟩ (by kernel_rfl) rfl ?_
  refine aw_ret ?_
  refine thenQ_r ?_
  exact retQ_r (ob := Ts 1 True) _ (by kernel_rfl) (tsI 1 trivial) h
 ·have h := h.2 hb
  refine aw_skip ?_
  refine thenQ_n ?_
  refine aw_seq ?_
  refine sr ?_
  refine rq 6 (ob := (Ts 4 (Ti 2 ((!decide ((ret10v.length : Int) = (4 : Int))) = false → True) True))) (st' := (⟨70, [e3_2 b, e3_11 k, e3_10, sB 21 (!decide ((ret10v.length : Int) = (4 : Int))), (22, [(21, false)], .v (.c (.own 10))), (23, [(21, false)], .v (.c (.own 14)))], [e3_3 ret10v, hA 14 5 (.int .u8) ret14v]⟩ : St)) (by kernel_rfl) (tsI 4 (tiI 2 (fun _ => trivial) trivial)) ?_
  refine awl_callk (p := [(21, false)]) (l := [toV1 (.sl (.int .u8)) ret10v, toV1 (.sl (.int .u8)) ret14v]) (cl := []) true [.d (.sl (.int .u8)), .d (.sl (.int .u8))] [0, 1, 5, 21, 24] [10] (fun (ret24v : Bool) => ((((!decide ((ret10v.length : Int) = (4 : Int))) || (!ret24v)) = true → K false) ∧ (((!decide ((ret10v.length : Int) = (4 : Int))) || (!ret24v)) = false → (((decide ((b.length : Int) < (2 : Int))) = true → K true) ∧ ((decide ((b.length : Int) < (2 : Int))) = false → (InR ((b.length : Int) - (1 : Int)) ∧ (0 ≤ k ∧ 0 < ((b.length : Int) - (1 : Int))) ∧ (roomW 1 (([] : List Int).length + b.length) ∧ (InR ((k % ((b.length : Int) - (1 : Int))) + (1 : Int)) ∧ InR ((k % ((b.length : Int) - (1 : Int))) + (1 : Int)) ∧ inIdx ((k % ((b.length : Int) - (1 : Int))) + (1 : Int)) (([] : List Int) ++ b).length ∧ inIdx (k % ((b.length : Int) - (1 : Int))) (([] : List Int) ++ b).length ∧ (inIdx (k % ((b.length : Int) - (1 : Int))) (([] : List Int) ++ b).length ∧ (inIdx ((k % ((b.length : Int) - (1 : Int))) + (1 : Int)) ((([] : List Int) ++ b).set (((k % ((b.length : Int) - (1 : Int)))).toNat) ((([] : List Int) ++ b).getD ((((k % ((b.length : Int) - (1 : Int))) + (1 : Int))).toNat) (0 : Int))).length ∧ (inIdx (k % ((b.length : Int) - (1 : Int))) b.length ∧ InR ((k % ((b.length : Int) - (1 : Int))) + (1 : Int)) ∧ inIdx ((k % ((b.length : Int) - (1 : Int))) + (1 : Int)) b.length ∧ VC8 (((([] : List Int) ++ b).set (((k % ((b.length : Int) - (1 : Int)))).toNat) ((([] : List Int) ++ b).getD ((((k % ((b.length : Int) - (1 : Int))) + (1 : Int))).toNat) (0 : Int))).set ((((k % ((b.length : Int) - (1 : Int))) + (1 : Int))).toNat) ((([] : List Int) ++ b).getD (((k % ((b.length : Int) - (1 : Int)))).toNat) (0 : Int))) (fun (ret56v : LI) => VC9 ret56v ret10v (fun (ret58v : Bool) => K (ret58v == (decide ((b.getD ((k % ((b.length : Int) - (1 : Int)))).toNat (0 : Int)) = (b.getD (((k % ((b.length : Int) - (1 : Int))) + (1 : Int))).toNat (0 : Int)))))))))))))))))) (fun ret24v => [toV1 .bool ret24v]) (fun ret24v => (⟨70, [e3_2 b, e3_11 k, e3_10, sB 21 (!decide ((ret10v.length : Int) = (4 : Int))), (24, [(21, false)], .v (.c (.pB ret24v)))], [e3_3 ret10v]⟩ : St)) (by kernel_rfl) rfl (by kernel_rfl) rfl (by kernel_rfl) Try.call9 (by kernel_rfl) (fun ret24v => by kernel_rfl) (fun _ _ => rfl) (fun hg => link9 ret10v ret14v _ (by have := gcall_T h (show (!(!decide ((ret10v.length : Int) = (4 : Int)))) = true from hg); exact this)) (fun hg => ⟨false, by have := gcall_F h (show (!(!decide ((ret10v.length : Int) = (4 : Int)))) = false from hg); exact this⟩) (fun ret24v h => ?_)
  refine rq 2 (ob := (((!decide ((ret10v.length : Int) = (4 : Int))) = false → True) ∧ Ts 1 True)) (st' := (⟨70, [e3_2 b, e3_11 k, e3_10, sB 26 ((!decide ((ret10v.length : Int) = (4 : Int))) || (!ret24v))], [e3_3 ret10v]⟩ : St)) (by kernel_rfl) (⟨(fun _ => trivial), tsI 1 trivial⟩) ?_
  refine nn ?_
  refine aw_cond (b := ((!decide ((ret10v.length : Int) = (4 : Int))) || (!ret24v))) (by kernel_rfl) (fun hb => ?_) (fun hb => ?_)
  ·have h := h.1 hb
   refine srn 1 ⟨70, [sB 4 false], []⟩ (by kernel_rfl) rfl ?_
   refine aw_ret ?_
   refine thenQ_r ?_
   exact retQ_r (ob := Ts 1 True) _ (by kernel_rfl) (tsI 1 trivial) h
  ·have h := h.2 hb
   refine aw_skip ?_
   refine thenQ_n ?_
   refine aw_seq ?_
   refine srn 3 ⟨70, [e3_2 b, e3_11 k, e3_10, sB 29 (decide ((b.length : Int) < (2 : Int)))], [e3_3 ret10v]⟩ (by kernel_rfl) rfl ?_
   refine aw_cond (b := (decide ((b.length : Int) < (2 : Int)))) (by kernel_rfl) (fun hb => ?_) (fun hb => ?_)
   ·have h := h.1 hb
    refine srn 1 ⟨70, [sB 4 true], []⟩ (by kernel_rfl) rfl ?_
    refine aw_ret ?_
    refine thenQ_r ?_
    exact retQ_r (ob := Ts 1 True) _ (by kernel_rfl) (tsI 1 trivial) h
   ·have h := h.2 hb
    refine aw_skip ?_
    refine thenQ_n ?_
    refine sr ?_
    obtain ⟨o1, o2, h⟩ := h
    refine rq 7 (ob := (Ts 4 (InR ((b.length : Int) - (1 : Int)) ∧ (0 ≤ k ∧ 0 < ((b.length : Int) - (1 : Int))) ∧ Ts 1 True))) (st' := (⟨70, [e3_2 b, e3_10, e3_5 k b], [e3_3 ret10v]⟩ : St)) (by kernel_rfl) (tsI 4 (⟨o1, ⟨o2, tsI 1 trivial⟩⟩)) ?_
    refine nsr ?_
    obtain ⟨o1, h⟩ := h
    refine rq 4 (ob := (Ts 2 (roomW 1 (([] : List Int).length + b.length) ∧ Ts 1 True))) (st' := (⟨70, [e3_2 b, e3_10, e3_5 k b, e3_13], [e3_3 ret10v, e3_9 b]⟩ : St)) (by kernel_rfl) (tsI 2 ⟨o1, tsI 1 trivial⟩) ?_
    refine nn ?_
    refine aw_seq ?_
    refine awd_begin [38] (by kernel_rfl) ?_
    refine awd_memo ((inIdx (k % ((b.length : Int) - (1 : Int))) (([] : List Int) ++ b).length ∧ (inIdx ((k % ((b.length : Int) - (1 : Int))) + (1 : Int)) ((([] : List Int) ++ b).set (((k % ((b.length : Int) - (1 : Int)))).toNat) ((([] : List Int) ++ b).getD ((((k % ((b.length : Int) - (1 : Int))) + (1 : Int))).toNat) (0 : Int))).length ∧ (inIdx (k % ((b.length : Int) - (1 : Int))) b.length ∧ InR ((k % ((b.length : Int) - (1 : Int))) + (1 : Int)) ∧ inIdx ((k % ((b.length : Int) - (1 : Int))) + (1 : Int)) b.length ∧ VC8 (((([] : List Int) ++ b).set (((k % ((b.length : Int) - (1 : Int)))).toNat) ((([] : List Int) ++ b).getD ((((k % ((b.length : Int) - (1 : Int))) + (1 : Int))).toNat) (0 : Int))).set ((((k % ((b.length : Int) - (1 : Int))) + (1 : Int))).toNat) ((([] : List Int) ++ b).getD (((k % ((b.length : Int) - (1 : Int)))).toNat) (0 : Int))) (fun (ret56v : LI) => VC9 ret56v ret10v (fun (ret58v : Bool) => K (ret58v == (decide ((b.getD ((k % ((b.length : Int) - (1 : Int)))).toNat (0 : Int)) = (b.getD (((k % ((b.length : Int) - (1 : Int))) + (1 : Int))).toNat (0 : Int))))))))))) e3_n0 (⟨70, [e3_2 b, e3_10, e3_5 k b, e3_13, e3_16, e3_12 k b, e3_15, e3_7 k b, e3_4 b k, e3_1 b k], [e3_3 ret10v, e3_9 b]⟩ : St) (fun h => ?_) (fun m1 => ?_)
    ·obtain ⟨o1, h⟩ := h
     refine drq (by kernel_rfl) [14] (ob := (inIdx (k % ((b.length : Int) - (1 : Int))) (([] : List Int) ++ b).length ∧ True)) (done' := [14, 13, 9, 12, 11, 10, 8, 7, 6, 5, 4, 3, 2, 1, 0]) (st' := (⟨70, [e3_2 b, e3_10, e3_5 k b, e3_13, e3_15, e3_7 k b, e3_4 b k, e3_1 b k, s1 53 (.el 38 (((k % ((b.length : Int) - (1 : Int)))).toNat) 1)], [e3_3 ret10v, e3_9 b]⟩ : St)) (by kernel_rfl) (⟨o1, trivial⟩) ?_
     refine awd_one (i := 15) (by kernel_rfl) ?_
     refine dsq (ob := True) (st' := (⟨70, [e3_2 b, e3_10, e3_5 k b, e3_13, e3_15, e3_7 k b, e3_1 b k], [e3_3 ret10v, e3_8 b k]⟩ : St)) rfl (by kernel_rfl) trivial ?_
     obtain ⟨o1, h⟩ := h
     refine drq (by kernel_rfl) [16] (ob := (inIdx ((k % ((b.length : Int) - (1 : Int))) + (1 : Int)) ((([] : List Int) ++ b).set (((k % ((b.length : Int) - (1 : Int)))).toNat) ((([] : List Int) ++ b).getD ((((k % ((b.length : Int) - (1 : Int))) + (1 : Int))).toNat) (0 : Int))).length ∧ True)) (done' := [16, 15, 14, 13, 9, 12, 11, 10, 8, 7, 6, 5, 4, 3, 2, 1, 0]) (st' := (⟨70, [e3_2 b, e3_10, e3_5 k b, e3_13, e3_1 b k, s1 54 (.el 38 ((((k % ((b.length : Int) - (1 : Int))) + (1 : Int))).toNat) 1)], [e3_3 ret10v, e3_8 b k]⟩ : St)) (by kernel_rfl) (⟨o1, trivial⟩) ?_
     refine awd_one (i := 17) (by kernel_rfl) ?_
     refine dsq (ob := True) (st' := (⟨70, [e3_2 b, e3_10, e3_5 k b, e3_13], [e3_3 ret10v, e3_0 b k]⟩ : St)) rfl (by kernel_rfl) trivial ?_
     refine awd_done (by kernel_rfl) ?_
     refine thenQ_n ?_
     refine aw_seq ?_
     refine awd_begin [] (by kernel_rfl) ?_
     obtain ⟨o1, o2, o3, h⟩ := h
     refine drq (by kernel_rfl) [0, 2, 4, 5, 6, 7, 8, 9, 10, 11, 12, 13] (ob := (Ts 4 (inIdx (k % ((b.length : Int) - (1 : Int))) b.length ∧ Ts 3 (InR ((k % ((b.length : Int) - (1 : Int))) + (1 : Int)) ∧ inIdx ((k % ((b.length : Int) - (1 : Int))) + (1 : Int)) b.length ∧ Ts 2 True)))) (done' := [13, 12, 11, 10, 9, 8, 7, 6, 5, 4, 2, 0]) (st' := (⟨70, [s1 55 (.own 38), s1 57 (.own 10), e3_6 b k], [e3_3 ret10v, e3_0 b k]⟩ : St)) (by kernel_rfl) (tsI 4 (⟨o1, tsI 3 (⟨o2, ⟨o3, tsI 2 trivial⟩⟩)⟩)) ?_
     refine awd_one (i := 1) (by kernel_rfl) ?_
     refine adop_callOk (e := 5) (t := (.int .u8)) (l := [toV1 (.sl (.int .u8)) (((([] : List Int) ++ b).set (((k % ((b.length : Int) - (1 : Int)))).toNat) ((([] : List Int) ++ b).getD ((((k % ((b.length : Int) - (1 : Int))) + (1 : Int))).toNat) (0 : Int))).set ((((k % ((b.length : Int) - (1 : Int))) + (1 : Int))).toNat) ((([] : List Int) ++ b).getD (((k % ((b.length : Int) - (1 : Int)))).toNat) (0 : Int)))]) (cl := []) true [.d (.sl (.int .u8))] [56, 57, 68] [10, 56] (fun (ret56v : LI) => VC9 ret56v ret10v (fun (ret58v : Bool) => K (ret58v == (decide ((b.getD ((k % ((b.length : Int) - (1 : Int)))).toNat (0 : Int)) = (b.getD (((k % ((b.length : Int) - (1 : Int))) + (1 : Int))).toNat (0 : Int))))))) (fun ret56v => (⟨70, [s1 56 (.own 56), s1 57 (.own 10), e3_6 b k], [e3_3 ret10v, hA 56 5 (.int .u8) ret56v]⟩ : St)) rfl rfl rfl (by kernel_rfl) rfl (by kernel_rfl) Try.call8 (by kernel_rfl) (fun _ => rfl) (fun ret56v => by kernel_rfl) (link8 (((([] : List Int) ++ b).set (((k % ((b.length : Int) - (1 : Int)))).toNat) ((([] : List Int) ++ b).getD ((((k % ((b.length : Int) - (1 : Int))) + (1 : Int))).toNat) (0 : Int))).set ((((k % ((b.length : Int) - (1 : Int))) + (1 : Int))).toNat) ((([] : List Int) ++ b).getD (((k % ((b.length : Int) - (1 : Int)))).toNat) (0 : Int))) _ h) (fun ret56v h => ?_)
     refine awd_one (i := 3) (by kernel_rfl) ?_
     refine adop_callk (p := []) (l := [toV1 (.sl (.int .u8)) ret56v, toV1 (.sl (.int .u8)) ret10v]) (cl := []) true [.d (.sl (.int .u8)), .d (.sl (.int .u8))] [58, 68] [] (fun (ret58v : Bool) => K (ret58v == (decide ((b.getD ((k % ((b.length : Int) - (1 : Int)))).toNat (0 : Int)) = (b.getD (((k % ((b.length : Int) - (1 : Int))) + (1 : Int))).toNat (0 : Int)))))) (fun ret58v => [toV1 .bool ret58v]) (fun ret58v => (⟨70, [sB 58 ret58v, e3_6 b k], []⟩ : St)) rfl (by kernel_rfl) rfl (by kernel_rfl) rfl (by kernel_rfl) Try.call9 (by kernel_rfl) (fun ret58v => by kernel_rfl) (fun _ _ => rfl) (fun hg => link9 ret56v ret10v _ h) (fun hg => noF hg) (fun ret58v h => ?_)
     refine drq (by kernel_rfl) [14, 15] (ob := (Ts 2 True)) (done' := [15, 14, 3, 1, 13, 12, 11, 10, 9, 8, 7, 6, 5, 4, 2, 0]) (st' := (⟨70, [sB 4 (ret58v == (decide ((b.getD ((k % ((b.length : Int) - (1 : Int)))).toNat (0 : Int)) = (b.getD (((k % ((b.length : Int) - (1 : Int))) + (1 : Int))).toNat (0 : Int)))))], []⟩ : St)) (by kernel_rfl) (tsI 2 trivial) ?_
     refine awd_done (by kernel_rfl) ?_
     refine thenQ_n ?_
     refine aw_ret ?_
     exact retQ_r (ob := Ts 1 True) _ (by kernel_rfl) (tsI 1 trivial) h
    ·obtain ⟨o1, o2, o3, o4, h⟩ := h
     refine drq (by kernel_rfl) [0, 1, 2, 3, 4, 5, 6, 7, 8, 10, 11, 12] (ob := (Ts 4 (InR ((k % ((b.length : Int) - (1 : Int))) + (1 : Int)) ∧ Ts 2 (InR ((k % ((b.length : Int) - (1 : Int))) + (1 : Int)) ∧ inIdx ((k % ((b.length : Int) - (1 : Int))) + (1 : Int)) (([] : List Int) ++ b).length ∧ Ts 2 (inIdx (k % ((b.length : Int) - (1 : Int))) (([] : List Int) ++ b).length ∧ True))))) (done' := [12, 11, 10, 8, 7, 6, 5, 4, 3, 2, 1, 0]) (st' := (⟨70, [e3_2 b, e3_10, e3_5 k b, e3_13, e3_16, e3_12 k b, e3_15, e3_7 k b, e3_14 k b, s1 51 (.el 38 (((k % ((b.length : Int) - (1 : Int)))).toNat) 1)], [e3_3 ret10v, e3_9 b]⟩ : St)) (by kernel_rfl) (tsI 4 (⟨o1, tsI 2 (⟨o2, ⟨o3, tsI 2 ⟨o4, trivial⟩⟩⟩)⟩)) ?_
     refine awd_two (i := 9) (j := 13) (by kernel_rfl) ?_ ?_
     ·have h := h
      refine dsq (ob := True) (st' := (⟨70, [e3_2 b, e3_10, e3_5 k b, e3_13, e3_16, e3_12 k b, e3_15, e3_7 k b, e3_4 b k, s1 51 (.el 38 (((k % ((b.length : Int) - (1 : Int)))).toNat) 1)], [e3_3 ret10v, e3_9 b]⟩ : St)) rfl (by kernel_rfl) trivial ?_
      refine awd_one (i := 13) (by kernel_rfl) ?_
      refine dsq (ob := True) (st' := (⟨70, [e3_2 b, e3_10, e3_5 k b, e3_13, e3_16, e3_12 k b, e3_15, e3_7 k b, e3_4 b k, e3_1 b k], [e3_3 ret10v, e3_9 b]⟩ : St)) rfl (by kernel_rfl) trivial ?_
      exact m1 h
     ·have h := h
      refine dsq (ob := True) (st' := (⟨70, [e3_2 b, e3_10, e3_5 k b, e3_13, e3_16, e3_12 k b, e3_15, e3_7 k b, e3_14 k b, e3_1 b k], [e3_3 ret10v, e3_9 b]⟩ : St)) rfl (by kernel_rfl) trivial ?_
      refine awd_one (i := 9) (by kernel_rfl) ?_
      refine dsq (ob := True) (st' := (⟨70, [e3_2 b, e3_10, e3_5 k b, e3_13, e3_16, e3_12 k b, e3_15, e3_7 k b, e3_4 b k, e3_1 b k], [e3_3 ret10v, e3_9 b]⟩ : St)) rfl (by kernel_rfl) trivial ?_
      refine awd_perm e3_n0 (by kernel_rfl) (by kernel_rfl) ?_
      exact m1 h
end Dec
