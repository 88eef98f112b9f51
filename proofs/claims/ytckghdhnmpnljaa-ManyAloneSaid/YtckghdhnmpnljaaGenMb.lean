/-
Printed by dec2.py: of each function its plain demand, and that the demand gives the contract.
-/
import Derived.Test.YtckghdhnmpnljaaGenMa
set_option linter.unusedSimpArgs false
set_option linter.unusedVariables false
set_option maxRecDepth 100000
namespace Dec
open Go Go.RowKit Go.Proofs
abbrev e37_0 (ret21v : (List ((List (Int × Int)) × (Int × (Int × LI))))) : Nat × Path × AV := s1 7 (.p (.sl (.pr (.mp (.int .u8) tI) (.pr tI tR))) ret21v)
abbrev e37_1 (ret21v : (List ((List (Int × Int)) × (Int × (Int × LI))))) (ret32v : Int) : Nat × Path × AV := sI 38 (((ret21v.getD (ret32v).toNat (([] : (List (Int × Int))), zT)).2.2.2).length : Int)
abbrev e37_2 (ret21v : (List ((List (Int × Int)) × (Int × (Int × LI))))) (ret32v : Int) : Nat × Path × AV := s1 37 (.pS ((ret21v.getD (ret32v).toNat (([] : (List (Int × Int))), zT)).2.2.2))
abbrev e37_3 (text : LI) : Nat × Path × AV := s1 22 (.p (.sl (.int .u8)) text)
abbrev e37_4 (text : LI) : Nat × Path × AV := sI 23 (text.length : Int)
abbrev e37_5 (out : (List (Int × Int))) : Nat × Path × Con := hA 5008 82 (.pr tI tI) out
abbrev e37_6 (text : LI) : Nat × Path × AV := s1 1 (.p (.sl (.int .u8)) text)
abbrev e37_7 : Nat × Path × AV := s1 8 (.own 5008)
abbrev e37_8 (words : LL) : Nat × Path × AV := s1 0 (.p (.sl (.sl (.int .u8))) words)
abbrev e37_9 (out2 : (List (Int × Int))) : Nat × Path × Con := hA 5008 82 (.pr tI tI) out2
-- coppicer/many.Find
def VC37_k1 (K : (List (Int × Int)) × Int → Prop) (out : (List (Int × Int))) : Prop :=
  K (out, (0 : Int))
def VC37_k2 (v24 : Int) (X1 : Int × Int × (List (Int × Int)) → Prop) (ret32v : Int) (out2 : (List (Int × Int))) : Prop :=
  (InR (v24 + (1 : Int)) ∧ X1 (ret32v, (v24 + (1 : Int)), out2))
def VC37_l2 (ret21v : (List ((List (Int × Int)) × (Int × (Int × LI))))) (v24 : Int) (X1 : Int × Int × (List (Int × Int)) → Prop) (ret32v : Int) (v39 : Int) (out2 : (List (Int × Int))) (X2 : Int × (List (Int × Int)) → Prop) : Prop :=
  (((decide (v39 < (((ret21v.getD (ret32v).toNat (([] : (List (Int × Int))), zT)).2.2.2).length : Int))) = true → (inIdx v39 ((ret21v.getD (ret32v).toNat (([] : (List (Int × Int))), zT)).2.2.2).length ∧ (InR (v24 + (1 : Int)) ∧ roomW 16 (out2.length + [((v24 + (1 : Int)), (((ret21v.getD (ret32v).toNat (([] : (List (Int × Int))), zT)).2.2.2).getD (v39).toNat (0 : Int)))].length) ∧ (InR (v39 + (1 : Int)) ∧ X2 ((v39 + (1 : Int)), (out2 ++ [((v24 + (1 : Int)), (((ret21v.getD (ret32v).toNat (([] : (List (Int × Int))), zT)).2.2.2).getD (v39).toNat (0 : Int)))])))))) ∧ ((decide (v39 < (((ret21v.getD (ret32v).toNat (([] : (List (Int × Int))), zT)).2.2.2).length : Int))) = false → VC37_k2 v24 X1 ret32v out2))
def VC37_l1 (text : LI) (K : (List (Int × Int)) × Int → Prop) (ret21v : (List ((List (Int × Int)) × (Int × (Int × LI))))) (atv : Int) (v24 : Int) (out : (List (Int × Int))) (X1 : Int × Int × (List (Int × Int)) → Prop) : Prop :=
  (((decide (v24 < (text.length : Int))) = true → (inIdx v24 text.length ∧ VC72 ret21v atv (text.getD (v24).toNat (0 : Int)) (fun (ret32v : Int) => (inIdx ret32v ret21v.length ∧ Loop (σ := Int × (List (Int × Int))) (fun s X => VC37_l2 ret21v v24 X1 ret32v s.1 s.2 X) ((0 : Int), out))))) ∧ ((decide (v24 < (text.length : Int))) = false → VC37_k1 K out))
def VC37 (words : LL) (text : LI) (K : (List (Int × Int)) × Int → Prop) : Prop :=
  VC70 words text (fun (ret16v : Int) => (((!decide (ret16v = (0 : Int))) = true → K (([] : (List (Int × Int))), ret16v)) ∧ ((!decide (ret16v = (0 : Int))) = false → VC71 words (fun (ret21v : (List ((List (Int × Int)) × (Int × (Int × LI))))) => Loop (σ := Int × Int × (List (Int × Int))) (fun s X => VC37_l1 text K ret21v s.1 s.2.1 s.2.2 X) ((0 : Int), (0 : Int), ([] : List (Int × Int)))))))
set_option maxHeartbeats 4000000 in
theorem link37 (words : LL) (text : LI) (K : (List (Int × Int)) × Int → Prop) (h : VC37 words text K) : ACalls Try.prog 37 [toV1 (.sl (.sl (.int .u8))) words, toV1 (.sl (.int .u8)) text] (fun res => ∃ y, res = (fun y => [toV1 (.sl (.pr tI tI)) y.1, toV1 tI y.2]) y ∧ K y) := by
 refine acalls_of_aw [(.sl (.pr tI tI)), tI] [.t 4, .t 5] Try.func37 rfl rfl rfl ?_
 unfold VC37 at h
 refine srn 2 ⟨53, [e37_8 words, e37_6 text], []⟩ (by kernel_rfl) rfl ?_
 refine aw_seq ?_
 refine sr ?_
 refine rqT 2 ⟨53, [e37_8 words, e37_6 text, s1 14 (.p (.sl (.sl (.int .u8))) words), s1 15 (.p (.sl (.int .u8)) text)], []⟩ (by kernel_rfl) ?_
 refine lcq (d := 16) [.d (.sl (.sl (.int .u8))), .d (.sl (.int .u8))] (fun ret16v => (⟨53, [e37_8 words, e37_6 text, sI 16 ret16v], []⟩ : St)) (by kernel_rfl) Try.call70 (fun _ => by kernel_rfl) (link70 words text _ h) (fun ret16v h => ?_)
 refine rqT 1 ⟨53, [e37_8 words, e37_6 text, sI 6 ret16v], []⟩ (by kernel_rfl) ?_
 refine nsr ?_
 refine rqT 2 ⟨53, [e37_8 words, e37_6 text, sI 6 ret16v, sB 18 (!decide (ret16v = (0 : Int)))], []⟩ (by kernel_rfl) ?_
 refine nn ?_
 refine aw_cond (b := (!decide (ret16v = (0 : Int)))) (by kernel_rfl) (fun hb => ?_) (fun hb => ?_)
 ·have h := h.1 hb
  refine srn 3 ⟨53, [s1 4 (.nils), sI 5 ret16v], []⟩ (by kernel_rfl) rfl ?_
  refine aw_ret ?_
  refine thenQ_r ?_
  exact retQ_r (ob := Ts 2 True) _ (by kernel_rfl) (tsI 2 trivial) h
 ·have h := h.2 hb
  refine aw_skip ?_
  refine thenQ_n ?_
  refine sr ?_
  refine rqT 1 ⟨53, [e37_6 text, s1 20 (.p (.sl (.sl (.int .u8))) words)], []⟩ (by kernel_rfl) ?_
  refine lcq (d := 21) [.d (.sl (.sl (.int .u8)))] (fun ret21v => (⟨53, [e37_6 text, s1 21 (.p (.sl (.pr (.mp (.int .u8) tI) (.pr tI tR))) ret21v)], []⟩ : St)) (by kernel_rfl) Try.call71 (fun _ => by kernel_rfl) (link71 words _ h) (fun ret21v h => ?_)
  refine rqT 1 ⟨53, [e37_6 text, e37_0 ret21v], []⟩ (by kernel_rfl) ?_
  refine nsr ?_
  refine rqT 1 ⟨53, [e37_6 text, e37_0 ret21v, s1 8 (.nils)], []⟩ (by kernel_rfl) ?_
  refine nsr ?_
  refine rqT 1 ⟨53, [e37_6 text, e37_0 ret21v, s1 8 (.nils), sI 9 (0 : Int)], []⟩ (by kernel_rfl) ?_
  refine nn ?_
  refine aw_seq ?_
  refine srn 3 ⟨53, [e37_0 ret21v, s1 8 (.nils), sI 9 (0 : Int), e37_3 text, e37_4 text, sI 24 (0 : Int)], []⟩ (by kernel_rfl) rfl ?_
  refine withJoin (σ := (List (Int × Int))) (fun s => (⟨53, [e37_7], [hA 5008 82 (.pr tI tI) s]⟩ : St)) (fun s => VC37_k1 K s) (fun out h => ?_) (fun rest1 => ?_)
  ·have h : VC37_k1 K out := h
   unfold VC37_k1 at h
   refine thenQ_n ?_
   refine srn 3 ⟨53, [s1 4 (.own 5008), sI 5 (0 : Int)], [e37_5 out]⟩ (by kernel_rfl) rfl ?_
   refine aw_conv [.freeze 5008] (st' := (⟨53, [s1 4 (.p (.sl (.pr tI tI)) out), sI 5 (0 : Int)], []⟩ : St)) (by kernel_rfl) ?_
   refine aw_ret ?_
   exact retQ_r (ob := Ts 2 True) _ (by kernel_rfl) (tsI 2 trivial) h
  ·refine aw_block ?_
   refine aw_conv [.nilOwn 8 5008 82 (.pr tI tI), .prune [7, 8, 9, 22, 23, 24] [5008]] (st' := (⟨53, [e37_0 ret21v, e37_7, sI 9 (0 : Int), e37_3 text, e37_4 text, sI 24 (0 : Int)], [hA 5008 82 (.pr tI tI) ([] : List (Int × Int))]⟩ : St)) (by kernel_rfl) ?_
   refine aw_loop (σ := Int × Int × (List (Int × Int))) (fun s => (⟨53, [e37_0 ret21v, e37_7, sI 9 s.1, e37_3 text, e37_4 text, sI 24 s.2.1], [hA 5008 82 (.pr tI tI) s.2.2]⟩ : St)) (fun s X => VC37_l1 text K ret21v s.1 s.2.1 s.2.2 X) (s0 := ((0 : Int), (0 : Int), ([] : List (Int × Int)))) (fun s X1 h => ?_) h
   obtain ⟨atv, v24, out⟩ := s
   have h : VC37_l1 text K ret21v atv v24 out X1 := h
   unfold VC37_l1 at h
   refine srn 1 ⟨53, [e37_0 ret21v, e37_7, sI 9 atv, e37_3 text, e37_4 text, sI 24 v24, sB 25 (decide (v24 < (text.length : Int)))], [e37_5 out]⟩ (by kernel_rfl) rfl ?_
   refine aw_seq ?_
   refine aw_cond (b := (decide (v24 < (text.length : Int)))) (by kernel_rfl) (fun hb => ?_) (fun hb => ?_)
   ·have h := h.1 hb
    refine aw_skip ?_
    refine thenQ_n ?_
    refine aw_seq ?_
    refine aw_block ?_
    refine sr ?_
    obtain ⟨o1, h⟩ := h
    refine rq 5 (ob := (Ts 1 (inIdx v24 text.length ∧ Ts 3 True))) (st' := (⟨53, [e37_0 ret21v, e37_7, sI 9 atv, sI 10 v24, s1 11 (.pY (text.getD (v24).toNat (0 : Int))), e37_3 text, e37_4 text, sI 24 v24], [e37_5 out]⟩ : St)) (by kernel_rfl) (tsI 1 ⟨o1, tsI 3 trivial⟩) ?_
    refine nsr ?_
    refine rqT 3 ⟨53, [e37_0 ret21v, e37_7, sI 10 v24, e37_3 text, e37_4 text, sI 24 v24, s1 29 (.p (.sl (.pr (.mp (.int .u8) tI) (.pr tI tR))) ret21v), sI 30 atv, s1 31 (.pY (text.getD (v24).toNat (0 : Int)))], [e37_5 out]⟩ (by kernel_rfl) ?_
    refine lcq (d := 32) [.d (.sl (.pr (.mp (.int .u8) tI) (.pr tI tR))), .d tI, .d (.int .u8)] (fun ret32v => (⟨53, [e37_0 ret21v, e37_7, sI 10 v24, e37_3 text, e37_4 text, sI 24 v24, sI 32 ret32v], [e37_5 out]⟩ : St)) (by kernel_rfl) Try.call72 (fun _ => by kernel_rfl) (link72 ret21v atv (text.getD (v24).toNat (0 : Int)) _ h) (fun ret32v h => ?_)
    refine rqT 1 ⟨53, [e37_0 ret21v, e37_7, sI 9 ret32v, sI 10 v24, e37_3 text, e37_4 text, sI 24 v24], [e37_5 out]⟩ (by kernel_rfl) ?_
    refine nsr ?_
    obtain ⟨o1, h⟩ := h
    refine rq 7 (ob := (Ts 2 (inIdx ret32v ret21v.length ∧ Ts 4 True))) (st' := (⟨53, [e37_0 ret21v, e37_7, sI 9 ret32v, sI 10 v24, e37_3 text, e37_4 text, sI 24 v24, e37_2 ret21v ret32v, e37_1 ret21v ret32v, sI 39 (0 : Int)], [e37_5 out]⟩ : St)) (by kernel_rfl) (tsI 2 ⟨o1, tsI 4 trivial⟩) ?_
    refine nn ?_
    refine withJoin (σ := (List (Int × Int))) (fun s => (⟨53, [e37_0 ret21v, e37_7, sI 9 ret32v, e37_3 text, e37_4 text, sI 24 v24], [hA 5008 82 (.pr tI tI) s]⟩ : St)) (fun s => VC37_k2 v24 X1 ret32v s) (fun out2 h => ?_) (fun rest2 => ?_)
    ·have h : VC37_k2 v24 X1 ret32v out2 := h
     unfold VC37_k2 at h
     refine blockQ_n ?_
     refine thenQ_n ?_
     refine aw_region ?_
     obtain ⟨o1, h⟩ := h
     refine rq 2 (ob := (InR (v24 + (1 : Int)) ∧ Ts 1 True)) (st' := (⟨53, [e37_0 ret21v, e37_7, sI 9 ret32v, e37_3 text, e37_4 text, sI 24 (v24 + (1 : Int))], [e37_9 out2]⟩ : St)) (by kernel_rfl) (⟨o1, tsI 1 trivial⟩) ?_
     refine awl_nil ?_
     exact thenQ_n ⟨(ret32v, (v24 + (1 : Int)), out2), rfl, h⟩
    ·refine aw_block ?_
     refine aw_loop (σ := Int × (List (Int × Int))) (fun s => (⟨53, [e37_0 ret21v, e37_7, sI 9 ret32v, sI 10 v24, e37_3 text, e37_4 text, sI 24 v24, e37_2 ret21v ret32v, e37_1 ret21v ret32v, sI 39 s.1], [hA 5008 82 (.pr tI tI) s.2]⟩ : St)) (fun s X => VC37_l2 ret21v v24 X1 ret32v s.1 s.2 X) (s0 := ((0 : Int), out)) (fun s X2 h => ?_) h
     obtain ⟨v39, out2⟩ := s
     have h : VC37_l2 ret21v v24 X1 ret32v v39 out2 X2 := h
     unfold VC37_l2 at h
     refine srn 1 ⟨53, [e37_0 ret21v, e37_7, sI 9 ret32v, sI 10 v24, e37_3 text, e37_4 text, sI 24 v24, e37_2 ret21v ret32v, e37_1 ret21v ret32v, sI 39 v39, sB 40 (decide (v39 < (((ret21v.getD (ret32v).toNat (([] : (List (Int × Int))), zT)).2.2.2).length : Int)))], [e37_9 out2]⟩ (by kernel_rfl) rfl ?_
     refine aw_seq ?_
     refine aw_cond (b := (decide (v39 < (((ret21v.getD (ret32v).toNat (([] : (List (Int × Int))), zT)).2.2.2).length : Int)))) (by kernel_rfl) (fun hb => ?_) (fun hb => ?_)
     ·have h := h.1 hb
      refine aw_skip ?_
      refine thenQ_n ?_
      refine aw_seq ?_
      refine aw_block ?_
      refine sr ?_
      obtain ⟨o1, h⟩ := h
      refine rq 3 (ob := (inIdx v39 ((ret21v.getD (ret32v).toNat (([] : (List (Int × Int))), zT)).2.2.2).length ∧ Ts 2 True)) (st' := (⟨53, [e37_0 ret21v, e37_7, sI 9 ret32v, sI 10 v24, sI 13 (((ret21v.getD (ret32v).toNat (([] : (List (Int × Int))), zT)).2.2.2).getD (v39).toNat (0 : Int)), e37_3 text, e37_4 text, sI 24 v24, e37_2 ret21v ret32v, e37_1 ret21v ret32v, sI 39 v39], [e37_9 out2]⟩ : St)) (by kernel_rfl) (⟨o1, tsI 2 trivial⟩) ?_
      refine nn ?_
      refine aw_region ?_
      obtain ⟨o1, o2, h⟩ := h
      refine rq 8 (ob := (Ts 2 (InR (v24 + (1 : Int)) ∧ Ts 3 (roomW 16 (out2.length + [((v24 + (1 : Int)), (((ret21v.getD (ret32v).toNat (([] : (List (Int × Int))), zT)).2.2.2).getD (v39).toNat (0 : Int)))].length) ∧ Ts 1 True)))) (st' := (⟨53, [e37_0 ret21v, s1 8 (.own 49), sI 9 ret32v, sI 10 v24, e37_3 text, e37_4 text, sI 24 v24, e37_2 ret21v ret32v, e37_1 ret21v ret32v, sI 39 v39], [hA 49 82 (.pr tI tI) (out2 ++ [((v24 + (1 : Int)), (((ret21v.getD (ret32v).toNat (([] : (List (Int × Int))), zT)).2.2.2).getD (v39).toNat (0 : Int)))])]⟩ : St)) (by kernel_rfl) (tsI 2 (⟨o1, tsI 3 ⟨o2, tsI 1 trivial⟩⟩)) ?_
      refine awl_nil ?_
      refine blockQ_n ?_
      refine thenQ_n ?_
      refine aw_region ?_
      obtain ⟨o1, h⟩ := h
      refine rq 2 (ob := (InR (v39 + (1 : Int)) ∧ Ts 1 True)) (st' := (⟨53, [e37_0 ret21v, s1 8 (.own 49), sI 9 ret32v, sI 10 v24, e37_3 text, e37_4 text, sI 24 v24, e37_2 ret21v ret32v, e37_1 ret21v ret32v, sI 39 (v39 + (1 : Int))], [hA 49 82 (.pr tI tI) (out2 ++ [((v24 + (1 : Int)), (((ret21v.getD (ret32v).toNat (([] : (List (Int × Int))), zT)).2.2.2).getD (v39).toNat (0 : Int)))])]⟩ : St)) (by kernel_rfl) (⟨o1, tsI 1 trivial⟩) ?_
      refine awl_conv [.ren 49 20049, .ren 20049 5008] (st' := (⟨53, [e37_0 ret21v, e37_7, sI 9 ret32v, sI 10 v24, e37_3 text, e37_4 text, sI 24 v24, e37_2 ret21v ret32v, e37_1 ret21v ret32v, sI 39 (v39 + (1 : Int))], [hA 5008 82 (.pr tI tI) (out2 ++ [((v24 + (1 : Int)), (((ret21v.getD (ret32v).toNat (([] : (List (Int × Int))), zT)).2.2.2).getD (v39).toNat (0 : Int)))])]⟩ : St)) (by kernel_rfl) ?_
      refine awl_nil ?_
      exact thenQ_n ⟨((v39 + (1 : Int)), (out2 ++ [((v24 + (1 : Int)), (((ret21v.getD (ret32v).toNat (([] : (List (Int × Int))), zT)).2.2.2).getD (v39).toNat (0 : Int)))])), rfl, h⟩
     ·have h := h.2 hb
      refine cpr (st' := (⟨53, [e37_0 ret21v, e37_7, sI 9 ret32v, e37_3 text, e37_4 text, sI 24 v24], [e37_9 out2]⟩ : St)) (by kernel_rfl) ?_
      refine aw_exit ?_
      refine thenQ_x ?_
      refine thenQ_x ?_
      refine blockQ_hit ?_
      exact rest2 out2 h
   ·have h := h.2 hb
    refine cpr (st' := (⟨53, [e37_7], [e37_5 out]⟩ : St)) (by kernel_rfl) ?_
    refine aw_exit ?_
    refine thenQ_x ?_
    refine thenQ_x ?_
    refine blockQ_hit ?_
    exact rest1 out h
abbrev e75_0 (w : LI) : Nat × Path × AV := s1 0 (.p (.sl (.int .u8)) w)
abbrev e75_1 (out : LI) : Nat × Path × Con := hA 8 3 tI out
abbrev e75_2 : Nat × Path × AV := s1 3 (.own 8)
abbrev e75_3 (w : LI) : Nat × Path × Con := hA 8 3 tI (List.replicate ((w.length : Int)).toNat (0 : Int))
-- coppicer/border.lengths
def VC75_k1 (K : LI → Prop) (out : LI) : Prop :=
  K out
def VC75_k3 (i : Int) (out : LI) (X1 : Int × Int × LI → Prop) (k3 : Int) : Prop :=
  (inIdx i out.length ∧ (InR (i + (1 : Int)) ∧ X1 (k3, (i + (1 : Int)), (out.set ((i).toNat) k3))))
def VC75_k2 (w : LI) (i : Int) (out : LI) (X1 : Int × Int × LI → Prop) (k2 : Int) : Prop :=
  (inIdx k2 w.length ∧ inIdx i w.length ∧ (((decide ((w.getD (k2).toNat (0 : Int)) = (w.getD (i).toNat (0 : Int)))) = true → (InR (k2 + (1 : Int)) ∧ VC75_k3 i out X1 (k2 + (1 : Int)))) ∧ ((decide ((w.getD (k2).toNat (0 : Int)) = (w.getD (i).toNat (0 : Int)))) = false → VC75_k3 i out X1 k2)))
def VC75_l2 (w : LI) (i : Int) (out : LI) (X1 : Int × Int × LI → Prop) (k2 : Int) (X2 : Int → Prop) : Prop :=
  (((decide ((0 : Int) < k2)) = true → inIdx k2 w.length) ∧ ((decide ((0 : Int) < k2)) = true → inIdx i w.length) ∧ ((((decide ((0 : Int) < k2)) && (!decide ((w.getD (k2).toNat (0 : Int)) = (w.getD (i).toNat (0 : Int))))) = true → (InR (k2 - (1 : Int)) ∧ inIdx (k2 - (1 : Int)) out.length ∧ X2 (out.getD (((k2 - (1 : Int))).toNat) (0 : Int)))) ∧ (((decide ((0 : Int) < k2)) && (!decide ((w.getD (k2).toNat (0 : Int)) = (w.getD (i).toNat (0 : Int))))) = false → VC75_k2 w i out X1 k2)))
def VC75_l1 (w : LI) (K : LI → Prop) (k : Int) (i : Int) (out : LI) (X1 : Int × Int × LI → Prop) : Prop :=
  (((decide (i < (w.length : Int))) = true → Loop (σ := Int) (fun s X => VC75_l2 w i out X1 s X) k) ∧ ((decide (i < (w.length : Int))) = false → VC75_k1 K out))
def VC75 (w : LI) (K : LI → Prop) : Prop :=
  (room (w.length : Int) ∧ Loop (σ := Int × Int × LI) (fun s X => VC75_l1 w K s.1 s.2.1 s.2.2 X) ((0 : Int), (1 : Int), (List.replicate ((w.length : Int)).toNat (0 : Int))))
set_option maxHeartbeats 4000000 in
theorem link75 (w : LI) (K : LI → Prop) (h : VC75 w K) : ACalls Try.prog 75 [toV1 (.sl (.int .u8)) w] (fun res => ∃ y, res = (fun y => [toV1 (.sl tI) y]) y ∧ K y) := by
 refine acalls_of_aw [(.sl tI)] [.t 2] Try.func75 rfl rfl rfl ?_
 unfold VC75 at h
 refine sr ?_
 refine rqT 1 ⟨49, [e75_0 w], []⟩ (by kernel_rfl) ?_
 refine nsr ?_
 obtain ⟨o1, h⟩ := h
 refine rq 4 (ob := (Ts 2 (room (w.length : Int) ∧ Ts 1 True))) (st' := (⟨49, [e75_0 w, e75_2], [e75_3 w]⟩ : St)) (by kernel_rfl) (tsI 2 ⟨o1, tsI 1 trivial⟩) ?_
 refine nsr ?_
 refine rqT 1 ⟨49, [e75_0 w, e75_2, sI 4 (0 : Int)], [e75_3 w]⟩ (by kernel_rfl) ?_
 refine nn ?_
 refine aw_seq ?_
 refine srn 1 ⟨49, [e75_0 w, e75_2, sI 4 (0 : Int), sI 5 (1 : Int)], [e75_3 w]⟩ (by kernel_rfl) rfl ?_
 refine withJoin (σ := LI) (fun s => (⟨49, [e75_2], [hA 8 3 tI s]⟩ : St)) (fun s => VC75_k1 K s) (fun out h => ?_) (fun rest1 => ?_)
 ·have h : VC75_k1 K out := h
  unfold VC75_k1 at h
  refine thenQ_n ?_
  refine srn 2 ⟨49, [s1 2 (.own 8)], [e75_1 out]⟩ (by kernel_rfl) rfl ?_
  refine aw_conv [.freeze 8] (st' := (⟨49, [s1 2 (.pS out)], []⟩ : St)) (by kernel_rfl) ?_
  refine aw_ret ?_
  exact retQ_r (ob := Ts 1 True) _ (by kernel_rfl) (tsI 1 trivial) h
 ·refine aw_block ?_
  refine aw_loop (σ := Int × Int × LI) (fun s => (⟨49, [e75_0 w, e75_2, sI 4 s.1, sI 5 s.2.1], [hA 8 3 tI s.2.2]⟩ : St)) (fun s X => VC75_l1 w K s.1 s.2.1 s.2.2 X) (s0 := ((0 : Int), (1 : Int), (List.replicate ((w.length : Int)).toNat (0 : Int)))) (fun s X1 h => ?_) h
  obtain ⟨k, i, out⟩ := s
  have h : VC75_l1 w K k i out X1 := h
  unfold VC75_l1 at h
  refine aw_seq ?_
  refine srn 4 ⟨49, [e75_0 w, e75_2, sI 4 k, sI 5 i, sB 12 (decide (i < (w.length : Int)))], [e75_1 out]⟩ (by kernel_rfl) rfl ?_
  refine aw_cond (b := (decide (i < (w.length : Int)))) (by kernel_rfl) (fun hb => ?_) (fun hb => ?_)
  ·have h := h.1 hb
   refine aw_skip ?_
   refine thenQ_n ?_
   refine aw_seq ?_
   refine aw_block ?_
   refine aw_seq ?_
   refine withJoin (σ := Int) (fun s => (⟨49, [e75_0 w, e75_2, sI 4 s, sI 5 i], [e75_1 out]⟩ : St)) (fun s => VC75_k2 w i out X1 s) (fun k2 h => ?_) (fun rest3 => ?_)
   ·have h : VC75_k2 w i out X1 k2 := h
    unfold VC75_k2 at h
    refine thenQ_n ?_
    refine aw_seq ?_
    refine aw_seq ?_
    refine awd_begin [] (by kernel_rfl) ?_
    obtain ⟨o1, o2, h⟩ := h
    refine drq (by kernel_rfl) [0, 1, 2, 3, 4, 5, 6, 7, 8] (ob := (Ts 2 (inIdx k2 w.length ∧ Ts 3 (inIdx i w.length ∧ Ts 2 True)))) (done' := [8, 7, 6, 5, 4, 3, 2, 1, 0]) (st' := (⟨49, [e75_0 w, e75_2, sI 4 k2, sI 5 i, sB 41 (decide ((w.getD (k2).toNat (0 : Int)) = (w.getD (i).toNat (0 : Int))))], [e75_1 out]⟩ : St)) (by kernel_rfl) (tsI 2 (⟨o1, tsI 3 ⟨o2, tsI 2 trivial⟩⟩)) ?_
    refine awd_done (by kernel_rfl) ?_
    refine thenQ_n ?_
    refine withJoin (σ := Int) (fun s => (⟨49, [e75_0 w, e75_2, sI 4 s, sI 5 i], [e75_1 out]⟩ : St)) (fun s => VC75_k3 i out X1 s) (fun k3 h => ?_) (fun rest2 => ?_)
    ·have h : VC75_k3 i out X1 k3 := h
     unfold VC75_k3 at h
     refine thenQ_n ?_
     refine aw_region ?_
     obtain ⟨o1, h⟩ := h
     refine rq 5 (ob := (Ts 3 (inIdx i out.length ∧ Ts 1 True))) (st' := (⟨49, [e75_0 w, e75_2, sI 4 k3, sI 5 i], [hA 8 3 tI (out.set ((i).toNat) k3)]⟩ : St)) (by kernel_rfl) (tsI 3 ⟨o1, tsI 1 trivial⟩) ?_
     refine awl_nil ?_
     refine blockQ_n ?_
     refine thenQ_n ?_
     refine aw_region ?_
     obtain ⟨o1, h⟩ := h
     refine rq 3 (ob := (Ts 1 (InR (i + (1 : Int)) ∧ Ts 1 True))) (st' := (⟨49, [e75_0 w, e75_2, sI 4 k3, sI 5 (i + (1 : Int))], [hA 8 3 tI (out.set ((i).toNat) k3)]⟩ : St)) (by kernel_rfl) (tsI 1 ⟨o1, tsI 1 trivial⟩) ?_
     refine awl_nil ?_
     exact thenQ_n ⟨(k3, (i + (1 : Int)), (out.set ((i).toNat) k3)), rfl, h⟩
    ·refine aw_cond (b := (decide ((w.getD (k2).toNat (0 : Int)) = (w.getD (i).toNat (0 : Int))))) (by kernel_rfl) (fun hb => ?_) (fun hb => ?_)
     ·have h := h.1 hb
      refine aw_region ?_
      obtain ⟨o1, h⟩ := h
      refine rq 3 (ob := (Ts 1 (InR (k2 + (1 : Int)) ∧ Ts 1 True))) (st' := (⟨49, [e75_0 w, e75_2, sI 4 (k2 + (1 : Int)), sI 5 i], [e75_1 out]⟩ : St)) (by kernel_rfl) (tsI 1 ⟨o1, tsI 1 trivial⟩) ?_
      refine awl_nil ?_
      exact rest2 (k2 + (1 : Int)) h
     ·have h := h.2 hb
      refine cpr (st' := (⟨49, [e75_0 w, e75_2, sI 4 k2, sI 5 i], [e75_1 out]⟩ : St)) (by kernel_rfl) ?_
      refine aw_skip ?_
      exact rest2 k2 h
   ·refine aw_block ?_
    refine cpr (st' := (⟨49, [e75_0 w, e75_2, sI 4 k, sI 5 i], [e75_1 out]⟩ : St)) (by kernel_rfl) ?_
    refine aw_loop (σ := Int) (fun s => (⟨49, [e75_0 w, e75_2, sI 4 s, sI 5 i], [e75_1 out]⟩ : St)) (fun s X => VC75_l2 w i out X1 s X) (s0 := k) (fun k2 X2 h => ?_) h
    have h : VC75_l2 w i out X1 k2 X2 := h
    unfold VC75_l2 at h
    refine aw_seq ?_
    refine aw_seq ?_
    refine awd_begin [] (by kernel_rfl) ?_
    obtain ⟨o1, o2, h⟩ := h
    refine drq (by kernel_rfl) [0, 1, 2, 3, 4, 5, 6, 7, 8, 9, 10, 11, 12] (ob := (Ts 3 (Ti 2 ((decide ((0 : Int) < k2)) = true → True) (((decide ((0 : Int) < k2)) = true → inIdx k2 w.length) ∧ Ti 3 ((decide ((0 : Int) < k2)) = true → True) (((decide ((0 : Int) < k2)) = true → inIdx i w.length) ∧ Ti 2 ((decide ((0 : Int) < k2)) = true → True) (Ts 1 True)))))) (done' := [12, 11, 10, 9, 8, 7, 6, 5, 4, 3, 2, 1, 0]) (st' := (⟨49, [e75_0 w, e75_2, sI 4 k2, sI 5 i, sB 27 ((decide ((0 : Int) < k2)) && (!decide ((w.getD (k2).toNat (0 : Int)) = (w.getD (i).toNat (0 : Int)))))], [e75_1 out]⟩ : St)) (by kernel_rfl) (tsI 3 (tiI 2 (fun _ => trivial) (⟨o1, tiI 3 (fun _ => trivial) ⟨o2, tiI 2 (fun _ => trivial) (tsI 1 trivial)⟩⟩))) ?_
    refine awd_done (by kernel_rfl) ?_
    refine thenQ_n ?_
    refine aw_cond (b := ((decide ((0 : Int) < k2)) && (!decide ((w.getD (k2).toNat (0 : Int)) = (w.getD (i).toNat (0 : Int)))))) (by kernel_rfl) (fun hb => ?_) (fun hb => ?_)
    ·have h := h.1 hb
     refine aw_skip ?_
     refine thenQ_n ?_
     refine aw_block ?_
     refine aw_region ?_
     obtain ⟨o1, o2, h⟩ := h
     refine rq 6 (ob := (Ts 2 (InR (k2 - (1 : Int)) ∧ inIdx (k2 - (1 : Int)) out.length ∧ Ts 2 True))) (st' := (⟨49, [e75_0 w, e75_2, sI 4 (out.getD (((k2 - (1 : Int))).toNat) (0 : Int)), sI 5 i], [e75_1 out]⟩ : St)) (by kernel_rfl) (tsI 2 (⟨o1, ⟨o2, tsI 2 trivial⟩⟩)) ?_
     refine awl_nil ?_
     refine blockQ_n ?_
     exact thenQ_n ⟨(out.getD (((k2 - (1 : Int))).toNat) (0 : Int)), rfl, h⟩
    ·have h := h.2 hb
     refine cpr (st' := (⟨49, [e75_0 w, e75_2, sI 4 k2, sI 5 i], [e75_1 out]⟩ : St)) (by kernel_rfl) ?_
     refine aw_exit ?_
     refine thenQ_x ?_
     refine thenQ_x ?_
     refine blockQ_hit ?_
     exact rest3 k2 h
  ·have h := h.2 hb
   refine cpr (st' := (⟨49, [e75_2], [e75_1 out]⟩ : St)) (by kernel_rfl) ?_
   refine aw_exit ?_
   refine thenQ_x ?_
   refine thenQ_x ?_
   refine blockQ_hit ?_
   exact rest1 out h
abbrev e38_0 (w : LI) : Nat × Path × AV := s1 0 (.p (.sl (.int .u8)) w)
abbrev e38_1 (text : LI) : Nat × Path × AV := s1 37 (.p (.sl (.int .u8)) text)
abbrev e38_2 (text : LI) : Nat × Path × AV := sI 38 (text.length : Int)
abbrev e38_3 (out : LI) : Nat × Path × Con := hA 5007 3 tI out
abbrev e38_4 : Nat × Path × AV := s1 7 (.own 5007)
abbrev e38_5 (ret36v : LI) : Nat × Path × AV := s1 9 (.pS ret36v)
abbrev e38_6 (text : LI) : Nat × Path × AV := s1 1 (.p (.sl (.int .u8)) text)
abbrev e38_7 (text : LI) : Nat × Path × AV := sI 25 ((text.length : Int) + (1 : Int))
abbrev e38_8 (text : LI) (v39 : Int) : Nat × Path × AV := s1 12 (.pY (text.getD (v39).toNat (0 : Int)))
abbrev e38_9 : Nat × Path × AV := s1 7 (.nils)
-- coppicer/border.Find
def VC38_k1 (K : LI × Int → Prop) (out : LI) : Prop :=
  K (out, (0 : Int))
def VC38_l1 (text : LI) (K : LI × Int → Prop) (v26 : Int) (out : LI) (X1 : Int × LI → Prop) : Prop :=
  (((decide (v26 < ((text.length : Int) + (1 : Int)))) = true → (roomW 8 (out.length + [v26].length) ∧ (InR (v26 + (1 : Int)) ∧ X1 ((v26 + (1 : Int)), (out ++ [v26]))))) ∧ ((decide (v26 < ((text.length : Int) + (1 : Int)))) = false → VC38_k1 K out))
def VC38_k2 (K : LI × Int → Prop) (out : LI) : Prop :=
  K (out, (0 : Int))
def VC38_k5 (v39 : Int) (X2 : Int × Int × LI → Prop) (k3 : Int) (out2 : LI) : Prop :=
  (InR (v39 + (1 : Int)) ∧ X2 (k3, (v39 + (1 : Int)), out2))
def VC38_k4 (w : LI) (v39 : Int) (out : LI) (X2 : Int × Int × LI → Prop) (k3 : Int) : Prop :=
  (((decide (k3 = (w.length : Int))) = true → (InR (v39 + (1 : Int)) ∧ InR ((v39 + (1 : Int)) - k3) ∧ roomW 8 (out.length + [((v39 + (1 : Int)) - k3)].length) ∧ VC38_k5 v39 X2 k3 (out ++ [((v39 + (1 : Int)) - k3)]))) ∧ ((decide (k3 = (w.length : Int))) = false → VC38_k5 v39 X2 k3 out))
def VC38_k3 (w : LI) (text : LI) (v39 : Int) (out : LI) (X2 : Int × Int × LI → Prop) (k2 : Int) : Prop :=
  (inIdx k2 w.length ∧ (((decide ((w.getD (k2).toNat (0 : Int)) = (text.getD (v39).toNat (0 : Int)))) = true → (InR (k2 + (1 : Int)) ∧ VC38_k4 w v39 out X2 (k2 + (1 : Int)))) ∧ ((decide ((w.getD (k2).toNat (0 : Int)) = (text.getD (v39).toNat (0 : Int)))) = false → VC38_k4 w v39 out X2 k2)))
def VC38_l3 (w : LI) (text : LI) (ret36v : LI) (v39 : Int) (out : LI) (X2 : Int × Int × LI → Prop) (k2 : Int) (X3 : Int → Prop) : Prop :=
  (((decide ((0 : Int) < k2)) = true → ((decide (k2 = (w.length : Int))) = false → inIdx k2 w.length)) ∧ ((((decide ((0 : Int) < k2)) && ((decide (k2 = (w.length : Int))) || (!decide ((w.getD (k2).toNat (0 : Int)) = (text.getD (v39).toNat (0 : Int)))))) = true → (InR (k2 - (1 : Int)) ∧ inIdx (k2 - (1 : Int)) ret36v.length ∧ X3 (ret36v.getD ((k2 - (1 : Int))).toNat (0 : Int)))) ∧ (((decide ((0 : Int) < k2)) && ((decide (k2 = (w.length : Int))) || (!decide ((w.getD (k2).toNat (0 : Int)) = (text.getD (v39).toNat (0 : Int)))))) = false → VC38_k3 w text v39 out X2 k2)))
def VC38_l2 (w : LI) (text : LI) (K : LI × Int → Prop) (ret36v : LI) (k : Int) (v39 : Int) (out : LI) (X2 : Int × Int × LI → Prop) : Prop :=
  (((decide (v39 < (text.length : Int))) = true → (inIdx v39 text.length ∧ Loop (σ := Int) (fun s X => VC38_l3 w text ret36v v39 out X2 s X) k)) ∧ ((decide (v39 < (text.length : Int))) = false → VC38_k2 K out))
def VC38 (w : LI) (text : LI) (K : LI × Int → Prop) : Prop :=
  VC74 [w, text] (fun (ret16v : Int) => (((!decide (ret16v = (0 : Int))) = true → K (([] : LI), ret16v)) ∧ ((!decide (ret16v = (0 : Int))) = false → (((decide ((w.length : Int) = (0 : Int))) = true → (InR ((text.length : Int) + (1 : Int)) ∧ Loop (σ := Int × LI) (fun s X => VC38_l1 text K s.1 s.2 X) ((0 : Int), ([] : List Int)))) ∧ ((decide ((w.length : Int) = (0 : Int))) = false → VC75 w (fun (ret36v : LI) => Loop (σ := Int × Int × LI) (fun s X => VC38_l2 w text K ret36v s.1 s.2.1 s.2.2 X) ((0 : Int), (0 : Int), ([] : List Int))))))))
set_option maxHeartbeats 4000000 in
theorem link38 (w : LI) (text : LI) (K : LI × Int → Prop) (h : VC38 w text K) : ACalls Try.prog 38 [toV1 (.sl (.int .u8)) w, toV1 (.sl (.int .u8)) text] (fun res => ∃ y, res = (fun y => [toV1 (.sl tI) y.1, toV1 tI y.2]) y ∧ K y) := by
 refine acalls_of_aw [(.sl tI), tI] [.t 4, .t 5] Try.func38 rfl rfl rfl ?_
 unfold VC38 at h
 refine srn 2 ⟨86, [e38_0 w, e38_6 text], []⟩ (by kernel_rfl) rfl ?_
 refine aw_seq ?_
 refine sr ?_
 refine rqT 3 ⟨86, [e38_0 w, e38_6 text, s1 15 (.own 15)], [hA 15 72 (.sl (.int .u8)) [w, text]]⟩ (by kernel_rfl) ?_
 refine awl_callk (p := []) (l := [toV1 (.sl (.sl (.int .u8))) [w, text]]) (cl := []) true [.d (.sl (.sl (.int .u8)))] [0, 1, 16] [] (fun (ret16v : Int) => (((!decide (ret16v = (0 : Int))) = true → K (([] : LI), ret16v)) ∧ ((!decide (ret16v = (0 : Int))) = false → (((decide ((w.length : Int) = (0 : Int))) = true → (InR ((text.length : Int) + (1 : Int)) ∧ Loop (σ := Int × LI) (fun s X => VC38_l1 text K s.1 s.2 X) ((0 : Int), ([] : List Int)))) ∧ ((decide ((w.length : Int) = (0 : Int))) = false → VC75 w (fun (ret36v : LI) => Loop (σ := Int × Int × LI) (fun s X => VC38_l2 w text K ret36v s.1 s.2.1 s.2.2 X) ((0 : Int), (0 : Int), ([] : List Int)))))))) (fun ret16v => [toV1 tI ret16v]) (fun ret16v => (⟨86, [e38_0 w, e38_6 text, sI 16 ret16v], []⟩ : St)) (by kernel_rfl) rfl (by kernel_rfl) rfl (by kernel_rfl) Try.call74 (by kernel_rfl) (fun ret16v => by kernel_rfl) (fun _ _ => rfl) (fun hg => link74 [w, text] _ h) (fun hg => noF hg) (fun ret16v h => ?_)
 refine rqT 1 ⟨86, [e38_0 w, e38_6 text, sI 6 ret16v], []⟩ (by kernel_rfl) ?_
 refine nsr ?_
 refine rqT 2 ⟨86, [e38_0 w, e38_6 text, sI 6 ret16v, sB 18 (!decide (ret16v = (0 : Int)))], []⟩ (by kernel_rfl) ?_
 refine nn ?_
 refine aw_cond (b := (!decide (ret16v = (0 : Int)))) (by kernel_rfl) (fun hb => ?_) (fun hb => ?_)
 ·have h := h.1 hb
  refine srn 3 ⟨86, [s1 4 (.nils), sI 5 ret16v], []⟩ (by kernel_rfl) rfl ?_
  refine aw_ret ?_
  refine thenQ_r ?_
  exact retQ_r (ob := Ts 2 True) _ (by kernel_rfl) (tsI 2 trivial) h
 ·have h := h.2 hb
  refine aw_skip ?_
  refine thenQ_n ?_
  refine srn 1 ⟨86, [e38_0 w, e38_6 text, e38_9], []⟩ (by kernel_rfl) rfl ?_
  refine aw_seq ?_
  refine srn 3 ⟨86, [e38_0 w, e38_6 text, e38_9, sB 22 (decide ((w.length : Int) = (0 : Int)))], []⟩ (by kernel_rfl) rfl ?_
  refine aw_cond (b := (decide ((w.length : Int) = (0 : Int)))) (by kernel_rfl) (fun hb => ?_) (fun hb => ?_)
  ·have h := h.1 hb
   refine aw_seq ?_
   refine sr ?_
   obtain ⟨o1, h⟩ := h
   refine rq 4 (ob := (Ts 2 (InR ((text.length : Int) + (1 : Int)) ∧ Ts 1 True))) (st' := (⟨86, [e38_9, e38_7 text, sI 26 (0 : Int)], []⟩ : St)) (by kernel_rfl) (tsI 2 ⟨o1, tsI 1 trivial⟩) ?_
   refine nn ?_
   refine withJoin (σ := LI) (fun s => (⟨86, [e38_4], [hA 5007 3 tI s]⟩ : St)) (fun s => VC38_k1 K s) (fun out h => ?_) (fun rest1 => ?_)
   ·have h : VC38_k1 K out := h
    unfold VC38_k1 at h
    refine thenQ_n ?_
    refine srn 3 ⟨86, [s1 4 (.own 5007), sI 5 (0 : Int)], [e38_3 out]⟩ (by kernel_rfl) rfl ?_
    refine aw_conv [.freeze 5007] (st' := (⟨86, [s1 4 (.pS out), sI 5 (0 : Int)], []⟩ : St)) (by kernel_rfl) ?_
    refine aw_ret ?_
    refine thenQ_r ?_
    exact retQ_r (ob := Ts 2 True) _ (by kernel_rfl) (tsI 2 trivial) h
   ·refine aw_block ?_
    refine aw_conv [.nilOwn 7 5007 3 tI] (st' := (⟨86, [e38_4, e38_7 text, sI 26 (0 : Int)], [hA 5007 3 tI ([] : List Int)]⟩ : St)) (by kernel_rfl) ?_
    refine aw_loop (σ := Int × LI) (fun s => (⟨86, [e38_4, e38_7 text, sI 26 s.1], [hA 5007 3 tI s.2]⟩ : St)) (fun s X => VC38_l1 text K s.1 s.2 X) (s0 := ((0 : Int), ([] : List Int))) (fun s X1 h => ?_) h
    obtain ⟨v26, out⟩ := s
    have h : VC38_l1 text K v26 out X1 := h
    unfold VC38_l1 at h
    refine srn 1 ⟨86, [e38_4, e38_7 text, sI 26 v26, sB 27 (decide (v26 < ((text.length : Int) + (1 : Int))))], [e38_3 out]⟩ (by kernel_rfl) rfl ?_
    refine aw_seq ?_
    refine aw_cond (b := (decide (v26 < ((text.length : Int) + (1 : Int))))) (by kernel_rfl) (fun hb => ?_) (fun hb => ?_)
    ·have h := h.1 hb
     refine aw_skip ?_
     refine thenQ_n ?_
     refine aw_seq ?_
     refine aw_block ?_
     refine srn 2 ⟨86, [e38_4, sI 8 v26, e38_7 text, sI 26 v26], [e38_3 out]⟩ (by kernel_rfl) rfl ?_
     refine aw_region ?_
     obtain ⟨o1, h⟩ := h
     refine rq 5 (ob := (Ts 3 (roomW 8 (out.length + [v26].length) ∧ Ts 1 True))) (st' := (⟨86, [s1 7 (.own 32), e38_7 text, sI 26 v26], [hA 32 3 tI (out ++ [v26])]⟩ : St)) (by kernel_rfl) (tsI 3 ⟨o1, tsI 1 trivial⟩) ?_
     refine awl_nil ?_
     refine blockQ_n ?_
     refine thenQ_n ?_
     refine aw_region ?_
     obtain ⟨o1, h⟩ := h
     refine rq 2 (ob := (InR (v26 + (1 : Int)) ∧ Ts 1 True)) (st' := (⟨86, [s1 7 (.own 32), e38_7 text, sI 26 (v26 + (1 : Int))], [hA 32 3 tI (out ++ [v26])]⟩ : St)) (by kernel_rfl) (⟨o1, tsI 1 trivial⟩) ?_
     refine awl_conv [.ren 32 20032, .ren 20032 5007] (st' := (⟨86, [e38_4, e38_7 text, sI 26 (v26 + (1 : Int))], [hA 5007 3 tI (out ++ [v26])]⟩ : St)) (by kernel_rfl) ?_
     refine awl_nil ?_
     exact thenQ_n ⟨((v26 + (1 : Int)), (out ++ [v26])), rfl, h⟩
    ·have h := h.2 hb
     refine cpr (st' := (⟨86, [e38_4], [e38_3 out]⟩ : St)) (by kernel_rfl) ?_
     refine aw_exit ?_
     refine thenQ_x ?_
     refine thenQ_x ?_
     refine blockQ_hit ?_
     exact rest1 out h
  ·have h := h.2 hb
   refine aw_skip ?_
   refine thenQ_n ?_
   refine sr ?_
   refine rqT 1 ⟨86, [e38_0 w, e38_6 text, e38_9, s1 35 (.p (.sl (.int .u8)) w)], []⟩ (by kernel_rfl) ?_
   refine lcq (d := 36) [.d (.sl (.int .u8))] (fun ret36v => (⟨86, [e38_0 w, e38_6 text, e38_9, s1 36 (.pS ret36v)], []⟩ : St)) (by kernel_rfl) Try.call75 (fun _ => by kernel_rfl) (link75 w _ h) (fun ret36v h => ?_)
   refine rqT 1 ⟨86, [e38_0 w, e38_6 text, e38_9, e38_5 ret36v], []⟩ (by kernel_rfl) ?_
   refine nsr ?_
   refine rqT 1 ⟨86, [e38_0 w, e38_6 text, e38_9, e38_5 ret36v, sI 10 (0 : Int)], []⟩ (by kernel_rfl) ?_
   refine nn ?_
   refine aw_seq ?_
   refine srn 3 ⟨86, [e38_0 w, e38_9, e38_5 ret36v, sI 10 (0 : Int), e38_1 text, e38_2 text, sI 39 (0 : Int)], []⟩ (by kernel_rfl) rfl ?_
   refine withJoin (σ := LI) (fun s => (⟨86, [e38_4], [hA 5007 3 tI s]⟩ : St)) (fun s => VC38_k2 K s) (fun out h => ?_) (fun rest2 => ?_)
   ·have h : VC38_k2 K out := h
    unfold VC38_k2 at h
    refine thenQ_n ?_
    refine srn 3 ⟨86, [s1 4 (.own 5007), sI 5 (0 : Int)], [e38_3 out]⟩ (by kernel_rfl) rfl ?_
    refine aw_conv [.freeze 5007] (st' := (⟨86, [s1 4 (.pS out), sI 5 (0 : Int)], []⟩ : St)) (by kernel_rfl) ?_
    refine aw_ret ?_
    exact retQ_r (ob := Ts 2 True) _ (by kernel_rfl) (tsI 2 trivial) h
   ·refine aw_block ?_
    refine aw_conv [.nilOwn 7 5007 3 tI, .prune [0, 7, 9, 10, 37, 38, 39] [5007]] (st' := (⟨86, [e38_0 w, e38_4, e38_5 ret36v, sI 10 (0 : Int), e38_1 text, e38_2 text, sI 39 (0 : Int)], [hA 5007 3 tI ([] : List Int)]⟩ : St)) (by kernel_rfl) ?_
    refine aw_loop (σ := Int × Int × LI) (fun s => (⟨86, [e38_0 w, e38_4, e38_5 ret36v, sI 10 s.1, e38_1 text, e38_2 text, sI 39 s.2.1], [hA 5007 3 tI s.2.2]⟩ : St)) (fun s X => VC38_l2 w text K ret36v s.1 s.2.1 s.2.2 X) (s0 := ((0 : Int), (0 : Int), ([] : List Int))) (fun s X2 h => ?_) h
    obtain ⟨k, v39, out⟩ := s
    have h : VC38_l2 w text K ret36v k v39 out X2 := h
    unfold VC38_l2 at h
    refine srn 1 ⟨86, [e38_0 w, e38_4, e38_5 ret36v, sI 10 k, e38_1 text, e38_2 text, sI 39 v39, sB 40 (decide (v39 < (text.length : Int)))], [e38_3 out]⟩ (by kernel_rfl) rfl ?_
    refine aw_seq ?_
    refine aw_cond (b := (decide (v39 < (text.length : Int)))) (by kernel_rfl) (fun hb => ?_) (fun hb => ?_)
    ·have h := h.1 hb
     refine aw_skip ?_
     refine thenQ_n ?_
     refine aw_seq ?_
     refine aw_block ?_
     refine sr ?_
     obtain ⟨o1, h⟩ := h
     refine rq 5 (ob := (Ts 1 (inIdx v39 text.length ∧ Ts 3 True))) (st' := (⟨86, [e38_0 w, e38_4, e38_5 ret36v, sI 10 k, sI 11 v39, e38_8 text v39, e38_1 text, e38_2 text, sI 39 v39], [e38_3 out]⟩ : St)) (by kernel_rfl) (tsI 1 ⟨o1, tsI 3 trivial⟩) ?_
     refine nn ?_
     refine aw_seq ?_
     refine withJoin (σ := Int) (fun s => (⟨86, [e38_0 w, e38_4, e38_5 ret36v, sI 10 s, sI 11 v39, e38_8 text v39, e38_1 text, e38_2 text, sI 39 v39], [e38_3 out]⟩ : St)) (fun s => VC38_k3 w text v39 out X2 s) (fun k2 h => ?_) (fun rest5 => ?_)
     ·have h : VC38_k3 w text v39 out X2 k2 := h
      unfold VC38_k3 at h
      refine thenQ_n ?_
      refine aw_seq ?_
      refine sr ?_
      obtain ⟨o1, h⟩ := h
      refine rq 6 (ob := (Ts 2 (inIdx k2 w.length ∧ Ts 3 True))) (st' := (⟨86, [e38_0 w, e38_4, e38_5 ret36v, sI 10 k2, sI 11 v39, e38_1 text, e38_2 text, sI 39 v39, sB 70 (decide ((w.getD (k2).toNat (0 : Int)) = (text.getD (v39).toNat (0 : Int))))], [e38_3 out]⟩ : St)) (by kernel_rfl) (tsI 2 ⟨o1, tsI 3 trivial⟩) ?_
      refine nn ?_
      refine withJoin (σ := Int) (fun s => (⟨86, [e38_0 w, e38_4, e38_5 ret36v, sI 10 s, sI 11 v39, e38_1 text, e38_2 text, sI 39 v39], [e38_3 out]⟩ : St)) (fun s => VC38_k4 w v39 out X2 s) (fun k3 h => ?_) (fun rest4 => ?_)
      ·have h : VC38_k4 w v39 out X2 k3 := h
       unfold VC38_k4 at h
       refine thenQ_n ?_
       refine srn 4 ⟨86, [e38_0 w, e38_4, e38_5 ret36v, sI 10 k3, sI 11 v39, e38_1 text, e38_2 text, sI 39 v39, sB 76 (decide (k3 = (w.length : Int)))], [e38_3 out]⟩ (by kernel_rfl) rfl ?_
       refine withJoin (σ := LI) (fun s => (⟨86, [e38_0 w, s1 7 (.own 83), e38_5 ret36v, sI 10 k3, e38_1 text, e38_2 text, sI 39 v39], [hA 83 3 tI s]⟩ : St)) (fun s => VC38_k5 v39 X2 k3 s) (fun out2 h => ?_) (fun rest3 => ?_)
       ·have h : VC38_k5 v39 X2 k3 out2 := h
        unfold VC38_k5 at h
        refine blockQ_n ?_
        refine thenQ_n ?_
        refine aw_region ?_
        obtain ⟨o1, h⟩ := h
        refine rq 2 (ob := (InR (v39 + (1 : Int)) ∧ Ts 1 True)) (st' := (⟨86, [e38_0 w, s1 7 (.own 83), e38_5 ret36v, sI 10 k3, e38_1 text, e38_2 text, sI 39 (v39 + (1 : Int))], [hA 83 3 tI out2]⟩ : St)) (by kernel_rfl) (⟨o1, tsI 1 trivial⟩) ?_
        refine awl_conv [.ren 83 20083, .ren 20083 5007] (st' := (⟨86, [e38_0 w, e38_4, e38_5 ret36v, sI 10 k3, e38_1 text, e38_2 text, sI 39 (v39 + (1 : Int))], [hA 5007 3 tI out2]⟩ : St)) (by kernel_rfl) ?_
        refine awl_nil ?_
        exact thenQ_n ⟨(k3, (v39 + (1 : Int)), out2), rfl, h⟩
       ·refine aw_cond (b := (decide (k3 = (w.length : Int)))) (by kernel_rfl) (fun hb => ?_) (fun hb => ?_)
        ·have h := h.1 hb
         refine aw_region ?_
         obtain ⟨o1, o2, o3, h⟩ := h
         refine rq 8 (ob := (Ts 2 (InR (v39 + (1 : Int)) ∧ Ts 1 (InR ((v39 + (1 : Int)) - k3) ∧ Ts 1 (roomW 8 (out.length + [((v39 + (1 : Int)) - k3)].length) ∧ Ts 1 True))))) (st' := (⟨86, [e38_0 w, s1 7 (.own 83), e38_5 ret36v, sI 10 k3, e38_1 text, e38_2 text, sI 39 v39], [hA 83 3 tI (out ++ [((v39 + (1 : Int)) - k3)])]⟩ : St)) (by kernel_rfl) (tsI 2 (⟨o1, tsI 1 (⟨o2, tsI 1 ⟨o3, tsI 1 trivial⟩⟩)⟩)) ?_
         refine awl_nil ?_
         exact rest3 (out ++ [((v39 + (1 : Int)) - k3)]) h
        ·have h := h.2 hb
         refine aw_conv [.prune [0, 7, 9, 10, 37, 38, 39] [5007], .ren 5007 25007, .ren 25007 83] (st' := (⟨86, [e38_0 w, s1 7 (.own 83), e38_5 ret36v, sI 10 k3, e38_1 text, e38_2 text, sI 39 v39], [hA 83 3 tI out]⟩ : St)) (by kernel_rfl) ?_
         refine aw_skip ?_
         exact rest3 out h
      ·refine aw_cond (b := (decide ((w.getD (k2).toNat (0 : Int)) = (text.getD (v39).toNat (0 : Int))))) (by kernel_rfl) (fun hb => ?_) (fun hb => ?_)
       ·have h := h.1 hb
        refine aw_region ?_
        obtain ⟨o1, h⟩ := h
        refine rq 3 (ob := (Ts 1 (InR (k2 + (1 : Int)) ∧ Ts 1 True))) (st' := (⟨86, [e38_0 w, e38_4, e38_5 ret36v, sI 10 (k2 + (1 : Int)), sI 11 v39, e38_1 text, e38_2 text, sI 39 v39], [e38_3 out]⟩ : St)) (by kernel_rfl) (tsI 1 ⟨o1, tsI 1 trivial⟩) ?_
        refine awl_nil ?_
        exact rest4 (k2 + (1 : Int)) h
       ·have h := h.2 hb
        refine cpr (st' := (⟨86, [e38_0 w, e38_4, e38_5 ret36v, sI 10 k2, sI 11 v39, e38_1 text, e38_2 text, sI 39 v39], [e38_3 out]⟩ : St)) (by kernel_rfl) ?_
        refine aw_skip ?_
        exact rest4 k2 h
     ·refine aw_block ?_
      refine aw_loop (σ := Int) (fun s => (⟨86, [e38_0 w, e38_4, e38_5 ret36v, sI 10 s, sI 11 v39, e38_8 text v39, e38_1 text, e38_2 text, sI 39 v39], [e38_3 out]⟩ : St)) (fun s X => VC38_l3 w text ret36v v39 out X2 s X) (s0 := k) (fun k2 X3 h => ?_) h
      have h : VC38_l3 w text ret36v v39 out X2 k2 X3 := h
      unfold VC38_l3 at h
      refine aw_seq ?_
      refine sr ?_
      obtain ⟨o1, h⟩ := h
      refine rq 16 (ob := (Ts 3 (Ti 5 ((decide ((0 : Int) < k2)) = true → True) (((decide ((0 : Int) < k2)) = true → ((decide (k2 = (w.length : Int))) = false → True)) ∧ ((decide ((0 : Int) < k2)) = true → ((decide (k2 = (w.length : Int))) = false → True)) ∧ ((decide ((0 : Int) < k2)) = true → ((decide (k2 = (w.length : Int))) = false → inIdx k2 w.length)) ∧ ((decide ((0 : Int) < k2)) = true → ((decide (k2 = (w.length : Int))) = false → True)) ∧ ((decide ((0 : Int) < k2)) = true → ((decide (k2 = (w.length : Int))) = false → True)) ∧ ((decide ((0 : Int) < k2)) = true → ((decide (k2 = (w.length : Int))) = false → True)) ∧ ((decide ((0 : Int) < k2)) = true → True) ∧ Ts 1 True)))) (st' := (⟨86, [e38_0 w, e38_4, e38_5 ret36v, sI 10 k2, sI 11 v39, e38_8 text v39, e38_1 text, e38_2 text, sI 39 v39, sB 59 ((decide ((0 : Int) < k2)) && ((decide (k2 = (w.length : Int))) || (!decide ((w.getD (k2).toNat (0 : Int)) = (text.getD (v39).toNat (0 : Int))))))], [e38_3 out]⟩ : St)) (by kernel_rfl) (tsI 3 (tiI 5 (fun _ => trivial) (tiI 2 (fun _ _ => trivial) (⟨o1, tiI 3 (fun _ _ => trivial) ⟨(fun _ => trivial), tsI 1 trivial⟩⟩)))) ?_
      refine nn ?_
      refine aw_cond (b := ((decide ((0 : Int) < k2)) && ((decide (k2 = (w.length : Int))) || (!decide ((w.getD (k2).toNat (0 : Int)) = (text.getD (v39).toNat (0 : Int))))))) (by kernel_rfl) (fun hb => ?_) (fun hb => ?_)
      ·have h := h.1 hb
       refine aw_skip ?_
       refine thenQ_n ?_
       refine aw_block ?_
       refine aw_region ?_
       obtain ⟨o1, o2, h⟩ := h
       refine rq 6 (ob := (Ts 2 (InR (k2 - (1 : Int)) ∧ inIdx (k2 - (1 : Int)) ret36v.length ∧ Ts 2 True))) (st' := (⟨86, [e38_0 w, e38_4, e38_5 ret36v, sI 10 (ret36v.getD ((k2 - (1 : Int))).toNat (0 : Int)), sI 11 v39, e38_8 text v39, e38_1 text, e38_2 text, sI 39 v39], [e38_3 out]⟩ : St)) (by kernel_rfl) (tsI 2 (⟨o1, ⟨o2, tsI 2 trivial⟩⟩)) ?_
       refine awl_nil ?_
       refine blockQ_n ?_
       exact thenQ_n ⟨(ret36v.getD ((k2 - (1 : Int))).toNat (0 : Int)), rfl, h⟩
      ·have h := h.2 hb
       refine cpr (st' := (⟨86, [e38_0 w, e38_4, e38_5 ret36v, sI 10 k2, sI 11 v39, e38_8 text v39, e38_1 text, e38_2 text, sI 39 v39], [e38_3 out]⟩ : St)) (by kernel_rfl) ?_
       refine aw_exit ?_
       refine thenQ_x ?_
       refine thenQ_x ?_
       refine blockQ_hit ?_
       exact rest5 k2 h
    ·have h := h.2 hb
     refine cpr (st' := (⟨86, [e38_4], [e38_3 out]⟩ : St)) (by kernel_rfl) ?_
     refine aw_exit ?_
     refine thenQ_x ?_
     refine thenQ_x ?_
     refine blockQ_hit ?_
     exact rest2 out h
-- coppicer/coppicerref.Ints
def VC18_k1 (K : Bool → Prop) : Prop :=
  K true
def VC18_l1 (a : LI) (b : LI) (K : Bool → Prop) (i : Int) (X1 : Int → Prop) : Prop :=
  (((decide (i < (a.length : Int))) = true → (inIdx i a.length ∧ inIdx i b.length ∧ (((!decide ((a.getD (i).toNat (0 : Int)) = (b.getD (i).toNat (0 : Int)))) = true → K false) ∧ ((!decide ((a.getD (i).toNat (0 : Int)) = (b.getD (i).toNat (0 : Int)))) = false → (InR (i + (1 : Int)) ∧ X1 (i + (1 : Int))))))) ∧ ((decide (i < (a.length : Int))) = false → VC18_k1 K))
def VC18 (a : LI) (b : LI) (K : Bool → Prop) : Prop :=
  (((!decide ((a.length : Int) = (b.length : Int))) = true → K false) ∧ ((!decide ((a.length : Int) = (b.length : Int))) = false → Loop (σ := Int) (fun s X => VC18_l1 a b K s X) (0 : Int)))
set_option maxHeartbeats 4000000 in
theorem link18 (a : LI) (b : LI) (K : Bool → Prop) (h : VC18 a b K) : ACalls Try.prog 18 [toV1 (.sl tI) a, toV1 (.sl tI) b] (fun res => ∃ y, res = (fun y => [toV1 .bool y]) y ∧ K y) := by
 refine acalls_of_aw [.bool] [.t 4] Try.func18 rfl rfl rfl ?_
 unfold VC18 at h
 refine srn 1 ⟨26, [s1 0 (.pS a), s1 1 (.pS b)], []⟩ (by kernel_rfl) rfl ?_
 refine aw_seq ?_
 refine srn 5 ⟨26, [s1 0 (.pS a), s1 1 (.pS b), sB 10 (!decide ((a.length : Int) = (b.length : Int)))], []⟩ (by kernel_rfl) rfl ?_
 refine aw_cond (b := (!decide ((a.length : Int) = (b.length : Int)))) (by kernel_rfl) (fun hb => ?_) (fun hb => ?_)
 ·have h := h.1 hb
  refine srn 1 ⟨26, [sB 4 false], []⟩ (by kernel_rfl) rfl ?_
  refine aw_ret ?_
  refine thenQ_r ?_
  exact retQ_r (ob := Ts 1 True) _ (by kernel_rfl) (tsI 1 trivial) h
 ·have h := h.2 hb
  refine aw_skip ?_
  refine thenQ_n ?_
  refine aw_seq ?_
  refine srn 1 ⟨26, [s1 0 (.pS a), s1 1 (.pS b), sI 5 (0 : Int)], []⟩ (by kernel_rfl) rfl ?_
  refine withJoin (σ := Unit) (fun s => (⟨26, [], []⟩ : St)) (fun s => VC18_k1 K) (fun s h => ?_) (fun rest1 => ?_)
  ·have h : VC18_k1 K := h
   unfold VC18_k1 at h
   refine thenQ_n ?_
   refine srn 1 ⟨26, [sB 4 true], []⟩ (by kernel_rfl) rfl ?_
   refine aw_ret ?_
   exact retQ_r (ob := Ts 1 True) _ (by kernel_rfl) (tsI 1 trivial) h
  ·refine aw_block ?_
   refine aw_loop (σ := Int) (fun s => (⟨26, [s1 0 (.pS a), s1 1 (.pS b), sI 5 s], []⟩ : St)) (fun s X => VC18_l1 a b K s X) (s0 := (0 : Int)) (fun i X1 h => ?_) h
   have h : VC18_l1 a b K i X1 := h
   unfold VC18_l1 at h
   refine aw_seq ?_
   refine srn 4 ⟨26, [s1 0 (.pS a), s1 1 (.pS b), sI 5 i, sB 14 (decide (i < (a.length : Int)))], []⟩ (by kernel_rfl) rfl ?_
   refine aw_cond (b := (decide (i < (a.length : Int)))) (by kernel_rfl) (fun hb => ?_) (fun hb => ?_)
   ·have h := h.1 hb
    refine aw_skip ?_
    refine thenQ_n ?_
    refine aw_seq ?_
    refine aw_block ?_
    refine aw_seq ?_
    refine awd_begin [] (by kernel_rfl) ?_
    obtain ⟨o1, o2, h⟩ := h
    refine drq (by kernel_rfl) [0, 1, 2, 3, 4, 5, 6, 7, 8] (ob := (Ts 2 (inIdx i a.length ∧ Ts 3 (inIdx i b.length ∧ Ts 2 True)))) (done' := [8, 7, 6, 5, 4, 3, 2, 1, 0]) (st' := (⟨26, [s1 0 (.pS a), s1 1 (.pS b), sI 5 i, sB 25 (!decide ((a.getD (i).toNat (0 : Int)) = (b.getD (i).toNat (0 : Int))))], []⟩ : St)) (by kernel_rfl) (tsI 2 (⟨o1, tsI 3 ⟨o2, tsI 2 trivial⟩⟩)) ?_
    refine awd_done (by kernel_rfl) ?_
    refine thenQ_n ?_
    refine aw_cond (b := (!decide ((a.getD (i).toNat (0 : Int)) = (b.getD (i).toNat (0 : Int))))) (by kernel_rfl) (fun hb => ?_) (fun hb => ?_)
    ·have h := h.1 hb
     refine srn 1 ⟨26, [sB 4 false], []⟩ (by kernel_rfl) rfl ?_
     refine aw_ret ?_
     refine blockQ_r ?_
     refine thenQ_r ?_
     refine thenQ_r ?_
     refine blockQ_r ?_
     refine thenQ_r ?_
     exact retQ_r (ob := Ts 1 True) _ (by kernel_rfl) (tsI 1 trivial) h
    ·have h := h.2 hb
     refine aw_skip ?_
     refine blockQ_n ?_
     refine thenQ_n ?_
     refine aw_region ?_
     obtain ⟨o1, h⟩ := h
     refine rq 3 (ob := (Ts 1 (InR (i + (1 : Int)) ∧ Ts 1 True))) (st' := (⟨26, [s1 0 (.pS a), s1 1 (.pS b), sI 5 (i + (1 : Int))], []⟩ : St)) (by kernel_rfl) (tsI 1 ⟨o1, tsI 1 trivial⟩) ?_
     refine awl_nil ?_
     exact thenQ_n ⟨(i + (1 : Int)), rfl, h⟩
   ·have h := h.2 hb
    refine cpr (st' := (⟨26, [], []⟩ : St)) (by kernel_rfl) ?_
    refine aw_exit ?_
    refine thenQ_x ?_
    refine thenQ_x ?_
    refine blockQ_hit ?_
    exact rest1 () h
abbrev e13_0 (words : LL) : Nat × Path × AV := s1 0 (.p (.sl (.sl (.int .u8))) words)
abbrev e13_1 (ret18v : (List (Int × Int)) × Int) : Nat × Path × AV := s1 55 (.p (.sl (.pr tI tI)) ret18v.1)
abbrev e13_2 (k : Int) (words : LL) : Nat × Path × AV := sI 9 (k % (words.length : Int))
abbrev e13_3 (ret18v : (List (Int × Int)) × Int) : Nat × Path × AV := s1 7 (.p (.sl (.pr tI tI)) ret18v.1)
abbrev e13_4 (ret18v : (List (Int × Int)) × Int) : Nat × Path × AV := sI 56 (ret18v.1.length : Int)
abbrev e13_5 (ret52v : LI × Int) : Nat × Path × AV := s1 10 (.pS ret52v.1)
abbrev e13_6 (text : LI) : Nat × Path × AV := s1 1 (.p (.sl (.int .u8)) text)
abbrev e13_7 (ret18v : (List (Int × Int)) × Int) (v57 : Int) : Nat × Path × Con := hB 14 [.pI ((ret18v.1.getD (v57).toNat ((0 : Int), (0 : Int))).1), .pI ((ret18v.1.getD (v57).toNat ((0 : Int), (0 : Int))).2)]
abbrev e13_8 (own : LI) : Nat × Path × Con := hA 5012 3 tI own
abbrev e13_9 : Nat × Path × AV := s1 12 (.own 5012)
-- coppicer/coppicerkeep.ManyAlone
def VC13_k1 (K : Bool → Prop) (ret52v : LI × Int) (own : LI) : Prop :=
  gcall (α := Bool) (decide (ret52v.2 = (0 : Int))) (VC18 own ret52v.1) false (fun (ret82v : Bool) => K ((decide (ret52v.2 = (0 : Int))) && ret82v))
def VC13_k2 (v57 : Int) (X1 : Int × LI → Prop) (own2 : LI) : Prop :=
  (InR (v57 + (1 : Int)) ∧ X1 ((v57 + (1 : Int)), own2))
def VC13_l1 (words : LL) (k : Int) (K : Bool → Prop) (ret18v : (List (Int × Int)) × Int) (ret52v : LI × Int) (v57 : Int) (own : LI) (X1 : Int × LI → Prop) : Prop :=
  (((decide (v57 < (ret18v.1.length : Int))) = true → (inIdx v57 ret18v.1.length ∧ (((decide ((ret18v.1.getD (v57).toNat ((0 : Int), (0 : Int))).2 = (k % (words.length : Int)))) = true → (inIdx (k % (words.length : Int)) words.length ∧ InR ((ret18v.1.getD (v57).toNat ((0 : Int), (0 : Int))).1 - ((words.getD ((k % (words.length : Int))).toNat ([] : LI)).length : Int)) ∧ (roomW 8 (own.length + [((ret18v.1.getD (v57).toNat ((0 : Int), (0 : Int))).1 - ((words.getD ((k % (words.length : Int))).toNat ([] : LI)).length : Int))].length) ∧ VC13_k2 v57 X1 (own ++ [((ret18v.1.getD (v57).toNat ((0 : Int), (0 : Int))).1 - ((words.getD ((k % (words.length : Int))).toNat ([] : LI)).length : Int))])))) ∧ ((decide ((ret18v.1.getD (v57).toNat ((0 : Int), (0 : Int))).2 = (k % (words.length : Int)))) = false → VC13_k2 v57 X1 own)))) ∧ ((decide (v57 < (ret18v.1.length : Int))) = false → VC13_k1 K ret52v own))
def VC13 (words : LL) (text : LI) (k : Int) (K : Bool → Prop) : Prop :=
  VC37 words text (fun (ret18v : (List (Int × Int)) × Int) => VC35 words text (fun (ret23v : Int) => (((!decide (ret23v = (0 : Int))) = true → K (!decide (ret18v.2 = (0 : Int)))) ∧ ((!decide (ret23v = (0 : Int))) = false → ((((!decide (ret18v.2 = (0 : Int))) || (decide ((words.length : Int) = (0 : Int)))) = true → K ((decide (ret18v.2 = (0 : Int))) && (decide ((ret18v.1.length : Int) = (0 : Int))))) ∧ (((!decide (ret18v.2 = (0 : Int))) || (decide ((words.length : Int) = (0 : Int)))) = false → ((0 ≤ k ∧ 0 < (words.length : Int)) ∧ (inIdx (k % (words.length : Int)) words.length ∧ VC38 (words.getD ((k % (words.length : Int))).toNat ([] : LI)) text (fun (ret52v : LI × Int) => Loop (σ := Int × LI) (fun s X => VC13_l1 words k K ret18v ret52v s.1 s.2 X) ((0 : Int), ([] : List Int)))))))))))
set_option maxHeartbeats 4000000 in
theorem link13 (words : LL) (text : LI) (k : Int) (K : Bool → Prop) (h : VC13 words text k K) : ACalls Try.prog 13 [toV1 (.sl (.sl (.int .u8))) words, toV1 (.sl (.int .u8)) text, toV1 (.int .u8) k] (fun res => ∃ y, res = (fun y => [toV1 .bool y]) y ∧ K y) := by
 refine acalls_of_aw [.bool] [.t 6] Try.func13 rfl rfl rfl ?_
 unfold VC13 at h
 refine sr ?_
 refine rqT 1 ⟨84, [e13_0 words, e13_6 text, s1 2 (.pY k)], []⟩ (by kernel_rfl) ?_
 refine nsr ?_
 refine rqT 2 ⟨84, [e13_0 words, e13_6 text, s1 2 (.pY k), s1 16 (.p (.sl (.sl (.int .u8))) words), s1 17 (.p (.sl (.int .u8)) text)], []⟩ (by kernel_rfl) ?_
 refine lcq (d := 18) [.d (.sl (.sl (.int .u8))), .d (.sl (.int .u8))] (fun ret18v => (⟨84, [e13_0 words, e13_6 text, s1 2 (.pY k), (18, [], .tup [.c (.p (.sl (.pr tI tI)) ret18v.1), .c (.pI ret18v.2)])], []⟩ : St)) (by kernel_rfl) Try.call37 (fun _ => by kernel_rfl) (link37 words text _ h) (fun ret18v h => ?_)
 refine rqT 5 ⟨84, [e13_0 words, e13_6 text, s1 2 (.pY k), e13_3 ret18v, sI 8 ret18v.2], []⟩ (by kernel_rfl) ?_
 refine nn ?_
 refine aw_seq ?_
 refine sr ?_
 refine rqT 2 ⟨84, [e13_0 words, e13_6 text, s1 2 (.pY k), e13_3 ret18v, sI 8 ret18v.2, s1 21 (.p (.sl (.sl (.int .u8))) words), s1 22 (.p (.sl (.int .u8)) text)], []⟩ (by kernel_rfl) ?_
 refine lcq (d := 23) [.d (.sl (.sl (.int .u8))), .d (.sl (.int .u8))] (fun ret23v => (⟨84, [e13_0 words, e13_6 text, s1 2 (.pY k), e13_3 ret18v, sI 8 ret18v.2, sI 23 ret23v], []⟩ : St)) (by kernel_rfl) Try.call35 (fun _ => by kernel_rfl) (link35 words text _ h) (fun ret23v h => ?_)
 refine rqT 1 ⟨84, [e13_0 words, e13_6 text, s1 2 (.pY k), e13_3 ret18v, sI 8 ret18v.2, sB 24 (!decide (ret23v = (0 : Int)))], []⟩ (by kernel_rfl) ?_
 refine nn ?_
 refine aw_cond (b := (!decide (ret23v = (0 : Int)))) (by kernel_rfl) (fun hb => ?_) (fun hb => ?_)
 ·have h := h.1 hb
  refine srn 3 ⟨84, [sB 6 (!decide (ret18v.2 = (0 : Int)))], []⟩ (by kernel_rfl) rfl ?_
  refine aw_ret ?_
  refine thenQ_r ?_
  exact retQ_r (ob := Ts 1 True) _ (by kernel_rfl) (tsI 1 trivial) h
 ·have h := h.2 hb
  refine aw_skip ?_
  refine thenQ_n ?_
  refine aw_seq ?_
  refine sr ?_
  refine rq 7 (ob := (Ts 3 (Ti 3 ((!decide (ret18v.2 = (0 : Int))) = false → True) (Ts 1 True)))) (st' := (⟨84, [e13_0 words, e13_6 text, s1 2 (.pY k), e13_3 ret18v, sI 8 ret18v.2, sB 33 ((!decide (ret18v.2 = (0 : Int))) || (decide ((words.length : Int) = (0 : Int))))], []⟩ : St)) (by kernel_rfl) (tsI 3 (tiI 3 (fun _ => trivial) (tsI 1 trivial))) ?_
  refine nn ?_
  refine aw_cond (b := ((!decide (ret18v.2 = (0 : Int))) || (decide ((words.length : Int) = (0 : Int))))) (by kernel_rfl) (fun hb => ?_) (fun hb => ?_)
  ·have h := h.1 hb
   refine sr ?_
   refine rq 8 (ob := (Ts 3 (Ti 3 ((decide (ret18v.2 = (0 : Int))) = true → True) (Ts 2 True)))) (st' := (⟨84, [sB 6 ((decide (ret18v.2 = (0 : Int))) && (decide ((ret18v.1.length : Int) = (0 : Int))))], []⟩ : St)) (by kernel_rfl) (tsI 3 (tiI 3 (fun _ => trivial) (tsI 2 trivial))) ?_
   refine nn ?_
   refine aw_ret ?_
   refine thenQ_r ?_
   exact retQ_r (ob := Ts 1 True) _ (by kernel_rfl) (tsI 1 trivial) h
  ·have h := h.2 hb
   refine aw_skip ?_
   refine thenQ_n ?_
   refine sr ?_
   obtain ⟨o1, h⟩ := h
   refine rq 6 (ob := (Ts 4 ((0 ≤ k ∧ 0 < (words.length : Int)) ∧ Ts 1 True))) (st' := (⟨84, [e13_0 words, e13_6 text, e13_3 ret18v, e13_2 k words], []⟩ : St)) (by kernel_rfl) (tsI 4 ⟨o1, tsI 1 trivial⟩) ?_
   refine nsr ?_
   obtain ⟨o1, h⟩ := h
   refine rq 5 (ob := (Ts 2 (inIdx (k % (words.length : Int)) words.length ∧ Ts 2 True))) (st' := (⟨84, [e13_0 words, e13_3 ret18v, e13_2 k words, s1 50 (.p (.sl (.int .u8)) (words.getD ((k % (words.length : Int))).toNat ([] : LI))), s1 51 (.p (.sl (.int .u8)) text)], []⟩ : St)) (by kernel_rfl) (tsI 2 ⟨o1, tsI 2 trivial⟩) ?_
   refine lcq (d := 52) [.d (.sl (.int .u8)), .d (.sl (.int .u8))] (fun ret52v => (⟨84, [e13_0 words, e13_3 ret18v, e13_2 k words, (52, [], .tup [.c (.pS ret52v.1), .c (.pI ret52v.2)])], []⟩ : St)) (by kernel_rfl) Try.call38 (fun _ => by kernel_rfl) (link38 (words.getD ((k % (words.length : Int))).toNat ([] : LI)) text _ h) (fun ret52v h => ?_)
   refine rqT 5 ⟨84, [e13_0 words, e13_3 ret18v, e13_2 k words, e13_5 ret52v, sI 11 ret52v.2], []⟩ (by kernel_rfl) ?_
   refine nsr ?_
   refine rqT 1 ⟨84, [e13_0 words, e13_3 ret18v, e13_2 k words, e13_5 ret52v, sI 11 ret52v.2, s1 12 (.nils)], []⟩ (by kernel_rfl) ?_
   refine nn ?_
   refine aw_seq ?_
   refine srn 3 ⟨84, [e13_0 words, e13_2 k words, e13_5 ret52v, sI 11 ret52v.2, s1 12 (.nils), e13_1 ret18v, e13_4 ret18v, sI 57 (0 : Int)], []⟩ (by kernel_rfl) rfl ?_
   refine withJoin (σ := LI) (fun s => (⟨84, [e13_5 ret52v, sI 11 ret52v.2, e13_9], [hA 5012 3 tI s]⟩ : St)) (fun s => VC13_k1 K ret52v s) (fun own h => ?_) (fun rest1 => ?_)
   ·have h : VC13_k1 K ret52v own := h
    unfold VC13_k1 at h
    refine thenQ_n ?_
    refine sr ?_
    refine rq 5 (ob := (Ts 3 (Ti 2 ((decide (ret52v.2 = (0 : Int))) = true → True) True))) (st' := (⟨84, [sB 79 (decide (ret52v.2 = (0 : Int))), (80, [(79, true)], .v (.c (.own 5012))), (81, [(79, true)], .v (.c (.pS ret52v.1)))], [e13_8 own]⟩ : St)) (by kernel_rfl) (tsI 3 (tiI 2 (fun _ => trivial) trivial)) ?_
    refine awl_callk (p := [(79, true)]) (l := [toV1 (.sl tI) own, toV1 (.sl tI) ret52v.1]) (cl := []) true [.d (.sl tI), .d (.sl tI)] [79, 82] [] (fun (ret82v : Bool) => K ((decide (ret52v.2 = (0 : Int))) && ret82v)) (fun ret82v => [toV1 .bool ret82v]) (fun ret82v => (⟨84, [sB 79 (decide (ret52v.2 = (0 : Int))), (82, [(79, true)], .v (.c (.pB ret82v)))], []⟩ : St)) (by kernel_rfl) rfl (by kernel_rfl) rfl (by kernel_rfl) Try.call18 (by kernel_rfl) (fun ret82v => by kernel_rfl) (fun _ _ => rfl) (fun hg => link18 own ret52v.1 _ (by have := gcall_T h (show (decide (ret52v.2 = (0 : Int))) = true from hg); exact this)) (fun hg => ⟨false, by have := gcall_F h (show (decide (ret52v.2 = (0 : Int))) = false from hg); exact this⟩) (fun ret82v h => ?_)
    refine rqT 2 ⟨84, [sB 6 ((decide (ret52v.2 = (0 : Int))) && ret82v)], []⟩ (by kernel_rfl) ?_
    refine nn ?_
    refine aw_ret ?_
    exact retQ_r (ob := Ts 1 True) _ (by kernel_rfl) (tsI 1 trivial) h
   ·refine aw_block ?_
    refine aw_conv [.nilOwn 12 5012 3 tI, .prune [0, 9, 10, 11, 12, 55, 56, 57] [5012]] (st' := (⟨84, [e13_0 words, e13_2 k words, e13_5 ret52v, sI 11 ret52v.2, e13_9, e13_1 ret18v, e13_4 ret18v, sI 57 (0 : Int)], [hA 5012 3 tI ([] : List Int)]⟩ : St)) (by kernel_rfl) ?_
    refine aw_loop (σ := Int × LI) (fun s => (⟨84, [e13_0 words, e13_2 k words, e13_5 ret52v, sI 11 ret52v.2, e13_9, e13_1 ret18v, e13_4 ret18v, sI 57 s.1], [hA 5012 3 tI s.2]⟩ : St)) (fun s X => VC13_l1 words k K ret18v ret52v s.1 s.2 X) (s0 := ((0 : Int), ([] : List Int))) (fun s X1 h => ?_) h
    obtain ⟨v57, own⟩ := s
    have h : VC13_l1 words k K ret18v ret52v v57 own X1 := h
    unfold VC13_l1 at h
    refine srn 1 ⟨84, [e13_0 words, e13_2 k words, e13_5 ret52v, sI 11 ret52v.2, e13_9, e13_1 ret18v, e13_4 ret18v, sI 57 v57, sB 58 (decide (v57 < (ret18v.1.length : Int)))], [e13_8 own]⟩ (by kernel_rfl) rfl ?_
    refine aw_seq ?_
    refine aw_cond (b := (decide (v57 < (ret18v.1.length : Int)))) (by kernel_rfl) (fun hb => ?_) (fun hb => ?_)
    ·have h := h.1 hb
     refine aw_skip ?_
     refine thenQ_n ?_
     refine aw_seq ?_
     refine aw_block ?_
     refine sr ?_
     obtain ⟨o1, h⟩ := h
     refine rq 4 (ob := (inIdx v57 ret18v.1.length ∧ Ts 3 True)) (st' := (⟨84, [e13_0 words, e13_2 k words, e13_5 ret52v, sI 11 ret52v.2, e13_9, sp 14 14, e13_1 ret18v, e13_4 ret18v, sI 57 v57], [e13_7 ret18v v57, e13_8 own]⟩ : St)) (by kernel_rfl) (⟨o1, tsI 3 trivial⟩) ?_
     refine nsr ?_
     refine rqT 4 ⟨84, [e13_0 words, e13_2 k words, e13_5 ret52v, sI 11 ret52v.2, e13_9, sp 14 14, e13_1 ret18v, e13_4 ret18v, sI 57 v57, sB 64 (decide ((ret18v.1.getD (v57).toNat ((0 : Int), (0 : Int))).2 = (k % (words.length : Int))))], [e13_7 ret18v v57, e13_8 own]⟩ (by kernel_rfl) ?_
     refine nn ?_
     refine withJoin (σ := LI) (fun s => (⟨84, [e13_0 words, e13_2 k words, e13_5 ret52v, sI 11 ret52v.2, s1 12 (.own 75), e13_1 ret18v, e13_4 ret18v, sI 57 v57], [hA 75 3 tI s]⟩ : St)) (fun s => VC13_k2 v57 X1 s) (fun own2 h => ?_) (fun rest2 => ?_)
     ·have h : VC13_k2 v57 X1 own2 := h
      unfold VC13_k2 at h
      refine blockQ_n ?_
      refine thenQ_n ?_
      refine aw_region ?_
      obtain ⟨o1, h⟩ := h
      refine rq 2 (ob := (InR (v57 + (1 : Int)) ∧ Ts 1 True)) (st' := (⟨84, [e13_0 words, e13_2 k words, e13_5 ret52v, sI 11 ret52v.2, s1 12 (.own 75), e13_1 ret18v, e13_4 ret18v, sI 57 (v57 + (1 : Int))], [hA 75 3 tI own2]⟩ : St)) (by kernel_rfl) (⟨o1, tsI 1 trivial⟩) ?_
      refine awl_conv [.ren 75 20075, .ren 20075 5012] (st' := (⟨84, [e13_0 words, e13_2 k words, e13_5 ret52v, sI 11 ret52v.2, e13_9, e13_1 ret18v, e13_4 ret18v, sI 57 (v57 + (1 : Int))], [hA 5012 3 tI own2]⟩ : St)) (by kernel_rfl) ?_
      refine awl_nil ?_
      exact thenQ_n ⟨((v57 + (1 : Int)), own2), rfl, h⟩
     ·refine aw_cond (b := (decide ((ret18v.1.getD (v57).toNat ((0 : Int), (0 : Int))).2 = (k % (words.length : Int))))) (by kernel_rfl) (fun hb => ?_) (fun hb => ?_)
      ·have h := h.1 hb
       refine awd_begin [5012] (by kernel_rfl) ?_
       obtain ⟨o1, o2, h⟩ := h
       refine drq (by kernel_rfl) [0, 1, 2, 3, 4, 5, 6, 7, 8] (ob := (Ts 5 (inIdx (k % (words.length : Int)) words.length ∧ Ts 2 (InR ((ret18v.1.getD (v57).toNat ((0 : Int), (0 : Int))).1 - ((words.getD ((k % (words.length : Int))).toNat ([] : LI)).length : Int)) ∧ True)))) (done' := [8, 7, 6, 5, 4, 3, 2, 1, 0]) (st' := (⟨84, [e13_0 words, e13_2 k words, e13_5 ret52v, sI 11 ret52v.2, e13_9, e13_1 ret18v, e13_4 ret18v, sI 57 v57, s1 65 (.own 5012), sI 73 ((ret18v.1.getD (v57).toNat ((0 : Int), (0 : Int))).1 - ((words.getD ((k % (words.length : Int))).toNat ([] : LI)).length : Int))], [e13_8 own]⟩ : St)) (by kernel_rfl) (tsI 5 (⟨o1, tsI 2 ⟨o2, trivial⟩⟩)) ?_
       refine awd_one (i := 9) (by kernel_rfl) ?_
       refine dsq (ob := True) (st' := (⟨84, [e13_0 words, e13_2 k words, e13_5 ret52v, sI 11 ret52v.2, e13_9, e13_1 ret18v, e13_4 ret18v, sI 57 v57, s1 65 (.own 5012), s1 74 (.own 74)], [hA 74 3 tI [((ret18v.1.getD (v57).toNat ((0 : Int), (0 : Int))).1 - ((words.getD ((k % (words.length : Int))).toNat ([] : LI)).length : Int))], e13_8 own]⟩ : St)) rfl (by kernel_rfl) trivial ?_
       refine awd_one (i := 10) (by kernel_rfl) ?_
       obtain ⟨o1, h⟩ := h
       refine dsq (ob := roomW 8 (own.length + [((ret18v.1.getD (v57).toNat ((0 : Int), (0 : Int))).1 - ((words.getD ((k % (words.length : Int))).toNat ([] : LI)).length : Int))].length)) (st' := (⟨84, [e13_0 words, e13_2 k words, e13_5 ret52v, sI 11 ret52v.2, e13_1 ret18v, e13_4 ret18v, sI 57 v57, s1 75 (.own 75)], [hA 75 3 tI (own ++ [((ret18v.1.getD (v57).toNat ((0 : Int), (0 : Int))).1 - ((words.getD ((k % (words.length : Int))).toNat ([] : LI)).length : Int))])]⟩ : St)) rfl (by kernel_rfl) o1 ?_
       refine drq (by kernel_rfl) [11] (ob := (Ts 1 True)) (done' := [11, 10, 9, 8, 7, 6, 5, 4, 3, 2, 1, 0]) (st' := (⟨84, [e13_0 words, e13_2 k words, e13_5 ret52v, sI 11 ret52v.2, s1 12 (.own 75), e13_1 ret18v, e13_4 ret18v, sI 57 v57], [hA 75 3 tI (own ++ [((ret18v.1.getD (v57).toNat ((0 : Int), (0 : Int))).1 - ((words.getD ((k % (words.length : Int))).toNat ([] : LI)).length : Int))])]⟩ : St)) (by kernel_rfl) (tsI 1 trivial) ?_
       refine awd_done (by kernel_rfl) ?_
       exact rest2 (own ++ [((ret18v.1.getD (v57).toNat ((0 : Int), (0 : Int))).1 - ((words.getD ((k % (words.length : Int))).toNat ([] : LI)).length : Int))]) h
      ·have h := h.2 hb
       refine aw_conv [.prune [0, 9, 10, 11, 12, 55, 56, 57] [5012], .ren 5012 25012, .ren 25012 75] (st' := (⟨84, [e13_0 words, e13_2 k words, e13_5 ret52v, sI 11 ret52v.2, s1 12 (.own 75), e13_1 ret18v, e13_4 ret18v, sI 57 v57], [hA 75 3 tI own]⟩ : St)) (by kernel_rfl) ?_
       refine aw_skip ?_
       exact rest2 own h
    ·have h := h.2 hb
     refine cpr (st' := (⟨84, [e13_5 ret52v, sI 11 ret52v.2, e13_9], [e13_8 own]⟩ : St)) (by kernel_rfl) ?_
     refine aw_exit ?_
     refine thenQ_x ?_
     refine thenQ_x ?_
     refine blockQ_hit ?_
     exact rest1 own h
end Dec
