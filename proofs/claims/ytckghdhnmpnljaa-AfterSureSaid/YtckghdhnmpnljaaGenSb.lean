/-
Printed by dec2.py: of each function its plain demand, and that the demand gives the contract.
-/
import Derived.Test.YtckghdhnmpnljaaGenSa
set_option linter.unusedSimpArgs false
set_option linter.unusedVariables false
set_option maxRecDepth 100000
namespace Dec
open Go Go.RowKit Go.Proofs
abbrev e53_0 (m : (LL × LI)) : Nat × Path × Con := hB 2 [.p (.sl (.sl tI)) m.1, .pS m.2]
abbrev e53_1 (number : (List (LI × Int))) : Nat × Path × Con := (19, [], .dict (.ar 3 tI) tI number)
abbrev e53_2 (classv : LI) : Nat × Path × Con := hA 18 3 tI classv
abbrev e53_3 (classv : LI) : Nat × Path × AV := sI 24 (classv.length : Int)
abbrev e53_4 (next : LI) : Nat × Path × Con := hA 22 3 tI next
abbrev e53_5 : Nat × Path × AV := s1 6 (.own 18)
abbrev e53_6 : Nat × Path × AV := s1 8 (.own 19)
abbrev e53_7 : Nat × Path × AV := s1 9 (.own 22)
abbrev e53_8 (key : LI) (v33 : Int) (classv : LI) (m : (LL × LI)) (v25 : Int) : Nat × Path × Con := (12, [], .vec 4 tI (key.set (((v33 + (1 : Int))).toNat) (classv.getD ((((m.1.getD (v25).toNat ([] : LI)).getD (v33).toNat (0 : Int))).toNat) (0 : Int))))
abbrev e53_9 : Nat × Path × AV := s1 23 (.own 18)
abbrev e53_10 : Nat × Path × Con := (19, [], .dict (.ar 3 tI) tI ([] : List (LI × Int)))
abbrev e53_11 (classv : LI) (v25 : Int) : Nat × Path × Con := (12, [], .vec 4 tI [(classv.getD ((v25).toNat) (0 : Int)), (0 : Int), (0 : Int), (0 : Int)])
abbrev e53_12 (key : LI) : Nat × Path × Con := (12, [], .vec 4 tI key)
-- coppicer/after.refine
def VC53_k1 (K : LI × Int → Prop) (many : Int) (X1 : Int × LI → Prop) (number : (List (LI × Int))) (next : LI) : Prop :=
  (InR (number.length : Int) ∧ (((decide ((number.length : Int) = many)) = true → K (next, many)) ∧ ((decide ((number.length : Int) = many)) = false → (InR (number.length : Int) ∧ X1 ((number.length : Int), next)))))
def VC53_k3 (v25 : Int) (next : LI) (X2 : Int × (List (LI × Int)) × LI → Prop) (n : Int) (number2 : (List (LI × Int))) : Prop :=
  (inIdx v25 next.length ∧ (InR (v25 + (1 : Int)) ∧ X2 ((v25 + (1 : Int)), number2, (next.set ((v25).toNat) n))))
def VC53_k2 (v25 : Int) (number : (List (LI × Int))) (next : LI) (X2 : Int × (List (LI × Int)) × LI → Prop) (key : LI) : Prop :=
  (((!(mget number (a4 key)).isSome) = true → (InR (number.length : Int) ∧ VC53_k3 v25 next X2 (number.length : Int) (mset number (a4 key) (number.length : Int)))) ∧ ((!(mget number (a4 key)).isSome) = false → VC53_k3 v25 next X2 ((mget number (a4 key)).getD (0 : Int)) number))
def VC53_l3 (m : (LL × LI)) (k : Int) (classv : LI) (v25 : Int) (number : (List (LI × Int))) (next : LI) (X2 : Int × (List (LI × Int)) × LI → Prop) (v33 : Int) (key : LI) (X3 : Int × LI → Prop) : Prop :=
  (((decide (v33 < k)) = true → (InR (v33 + (1 : Int)) ∧ inIdx v25 m.1.length ∧ inIdx v33 (m.1.getD (v25).toNat ([] : LI)).length ∧ inIdx ((m.1.getD (v25).toNat ([] : LI)).getD (v33).toNat (0 : Int)) classv.length ∧ inIdx (v33 + (1 : Int)) 4 ∧ (InR (v33 + (1 : Int)) ∧ X3 ((v33 + (1 : Int)), (key.set (((v33 + (1 : Int))).toNat) (classv.getD ((((m.1.getD (v25).toNat ([] : LI)).getD (v33).toNat (0 : Int))).toNat) (0 : Int))))))) ∧ ((decide (v33 < k)) = false → VC53_k2 v25 number next X2 key))
def VC53_l2 (m : (LL × LI)) (k : Int) (K : LI × Int → Prop) (many : Int) (classv : LI) (X1 : Int × LI → Prop) (v25 : Int) (number : (List (LI × Int))) (next : LI) (X2 : Int × (List (LI × Int)) × LI → Prop) : Prop :=
  (((decide (v25 < (classv.length : Int))) = true → (inIdx v25 classv.length ∧ Loop (σ := Int × LI) (fun s X => VC53_l3 m k classv v25 number next X2 s.1 s.2 X) ((0 : Int), [(classv.getD ((v25).toNat) (0 : Int)), (0 : Int), (0 : Int), (0 : Int)]))) ∧ ((decide (v25 < (classv.length : Int))) = false → VC53_k1 K many X1 number next))
def VC53_l1 (m : (LL × LI)) (k : Int) (K : LI × Int → Prop) (many : Int) (classv : LI) (X1 : Int × LI → Prop) : Prop :=
  (room (classv.length : Int) ∧ Loop (σ := Int × (List (LI × Int)) × LI) (fun s X => VC53_l2 m k K many classv X1 s.1 s.2.1 s.2.2 X) ((0 : Int), ([] : List (LI × Int)), (List.replicate ((classv.length : Int)).toNat (0 : Int))))
def VC53 (m : (LL × LI)) (k : Int) (K : LI × Int → Prop) : Prop :=
  VC91 m.2 (fun (ret18v : LI) => Loop (σ := Int × LI) (fun s X => VC53_l1 m k K s.1 s.2 X) ((0 : Int), ret18v))
set_option maxHeartbeats 4000000 in
theorem link53 (m : (LL × LI)) (k : Int) (K : LI × Int → Prop) (h : VC53 m k K) : ACalls Try.prog 53 [toV1 (.pr (.sl (.sl tI)) (.sl tI)) m, toV1 tI k] (fun res => ∃ y, res = (fun y => [toV1 (.sl tI) y.1, toV1 tI y.2]) y ∧ K y) := by
 refine acalls_of_aw [(.sl tI), tI] [.t 4, .t 5] Try.func53 rfl rfl rfl ?_
 unfold VC53 at h
 refine sr ?_
 refine rqT 3 ⟨78, [sI 1 k, sp 2 2], [e53_0 m]⟩ (by kernel_rfl) ?_
 refine nsr ?_
 refine rqT 2 ⟨78, [sI 1 k, sp 2 2, s1 17 (.pS m.2)], [e53_0 m]⟩ (by kernel_rfl) ?_
 refine awl_callOk (e := 3) (t := tI) (l := [toV1 (.sl tI) m.2]) (cl := []) false [.d (.sl tI)] [1, 2, 18] [2, 18] (fun (ret18v : LI) => Loop (σ := Int × LI) (fun s X => VC53_l1 m k K s.1 s.2 X) ((0 : Int), ret18v)) (fun ret18v => (⟨78, [sI 1 k, sp 2 2, s1 18 (.own 18)], [e53_0 m, hA 18 3 tI ret18v]⟩ : St)) rfl rfl (by kernel_rfl) rfl (by kernel_rfl) Try.call91 (by kernel_rfl) (fun e => by cases e) (fun ret18v => by kernel_rfl) (link91 m.2 _ h) (fun ret18v h => ?_)
 refine rqT 2 ⟨78, [sI 1 k, sp 2 2, e53_5, sI 7 (0 : Int)], [e53_0 m, hA 18 3 tI ret18v]⟩ (by kernel_rfl) ?_
 refine nn ?_
 refine aw_block ?_
 refine aw_loop (σ := Int × LI) (fun s => (⟨78, [sI 1 k, sp 2 2, e53_5, sI 7 s.1], [e53_0 m, hA 18 3 tI s.2]⟩ : St)) (fun s X => VC53_l1 m k K s.1 s.2 X) (s0 := ((0 : Int), ret18v)) (fun s X1 h => ?_) h
 obtain ⟨many, classv⟩ := s
 have h : VC53_l1 m k K many classv X1 := h
 unfold VC53_l1 at h
 refine aw_block ?_
 refine sr ?_
 refine rqT 2 ⟨78, [sI 1 k, sp 2 2, e53_5, sI 7 many, e53_6], [e53_0 m, e53_2 classv, e53_10]⟩ (by kernel_rfl) ?_
 refine nsr ?_
 obtain ⟨o1, h⟩ := h
 refine rq 4 (ob := (Ts 2 (room (classv.length : Int) ∧ Ts 1 True))) (st' := (⟨78, [sI 1 k, sp 2 2, e53_5, sI 7 many, e53_6, e53_7], [e53_0 m, e53_2 classv, e53_10, hA 22 3 tI (List.replicate ((classv.length : Int)).toNat (0 : Int))]⟩ : St)) (by kernel_rfl) (tsI 2 ⟨o1, tsI 1 trivial⟩) ?_
 refine nn ?_
 refine aw_seq ?_
 refine srn 3 ⟨78, [sI 1 k, sp 2 2, e53_5, sI 7 many, e53_6, e53_7, e53_9, e53_3 classv, sI 25 (0 : Int)], [e53_0 m, e53_2 classv, e53_10, hA 22 3 tI (List.replicate ((classv.length : Int)).toNat (0 : Int))]⟩ (by kernel_rfl) rfl ?_
 refine withJoin (σ := (List (LI × Int)) × LI) (fun s => (⟨78, [sI 1 k, sp 2 2, sI 7 many, e53_6, e53_7], [e53_0 m, (19, [], .dict (.ar 3 tI) tI s.1), hA 22 3 tI s.2]⟩ : St)) (fun s => VC53_k1 K many X1 s.1 s.2) (fun s h => ?_) (fun rest1 => ?_)
 ·obtain ⟨number, next⟩ := s
  have h : VC53_k1 K many X1 number next := h
  unfold VC53_k1 at h
  refine thenQ_n ?_
  refine aw_seq ?_
  refine sr ?_
  obtain ⟨o1, h⟩ := h
  refine rq 4 (ob := (Ts 1 (InR (number.length : Int) ∧ Ts 2 True))) (st' := (⟨78, [sI 1 k, sp 2 2, sI 7 many, e53_6, e53_7, sB 72 (decide ((number.length : Int) = many))], [e53_0 m, e53_1 number, e53_4 next]⟩ : St)) (by kernel_rfl) (tsI 1 ⟨o1, tsI 2 trivial⟩) ?_
  refine nn ?_
  refine aw_cond (b := (decide ((number.length : Int) = many))) (by kernel_rfl) (fun hb => ?_) (fun hb => ?_)
  ·have h := h.1 hb
   refine srn 4 ⟨78, [s1 4 (.own 22), sI 5 many], [e53_4 next]⟩ (by kernel_rfl) rfl ?_
   refine aw_conv [.freeze 22] (st' := (⟨78, [s1 4 (.pS next), sI 5 many], []⟩ : St)) (by kernel_rfl) ?_
   refine aw_ret ?_
   refine thenQ_r ?_
   refine blockQ_r ?_
   refine thenQ_r ?_
   refine blockQ_r ?_
   exact retQ_r (ob := Ts 2 True) _ (by kernel_rfl) (tsI 2 trivial) h
  ·have h := h.2 hb
   refine aw_skip ?_
   refine thenQ_n ?_
   refine aw_region ?_
   obtain ⟨o1, h⟩ := h
   refine rq 5 (ob := (Ts 2 (InR (number.length : Int) ∧ Ts 2 True))) (st' := (⟨78, [sI 1 k, sp 2 2, s1 6 (.own 22), sI 7 (number.length : Int)], [e53_0 m, e53_4 next]⟩ : St)) (by kernel_rfl) (tsI 2 ⟨o1, tsI 2 trivial⟩) ?_
   refine awl_conv [.ren 22 20022, .ren 20022 18] (st' := (⟨78, [sI 1 k, sp 2 2, e53_5, sI 7 (number.length : Int)], [e53_0 m, hA 18 3 tI next]⟩ : St)) (by kernel_rfl) ?_
   refine awl_nil ?_
   refine blockQ_n ?_
   exact thenQ_n ⟨((number.length : Int), next), rfl, h⟩
 ·refine aw_block ?_
  refine aw_loop (σ := Int × (List (LI × Int)) × LI) (fun s => (⟨78, [sI 1 k, sp 2 2, e53_5, sI 7 many, e53_6, e53_7, e53_9, e53_3 classv, sI 25 s.1], [e53_0 m, e53_2 classv, (19, [], .dict (.ar 3 tI) tI s.2.1), hA 22 3 tI s.2.2]⟩ : St)) (fun s X => VC53_l2 m k K many classv X1 s.1 s.2.1 s.2.2 X) (s0 := ((0 : Int), ([] : List (LI × Int)), (List.replicate ((classv.length : Int)).toNat (0 : Int)))) (fun s X2 h => ?_) h
  obtain ⟨v25, number, next⟩ := s
  have h : VC53_l2 m k K many classv X1 v25 number next X2 := h
  unfold VC53_l2 at h
  refine srn 1 ⟨78, [sI 1 k, sp 2 2, e53_5, sI 7 many, e53_6, e53_7, e53_9, e53_3 classv, sI 25 v25, sB 26 (decide (v25 < (classv.length : Int)))], [e53_0 m, e53_2 classv, e53_1 number, e53_4 next]⟩ (by kernel_rfl) rfl ?_
  refine aw_seq ?_
  refine aw_cond (b := (decide (v25 < (classv.length : Int)))) (by kernel_rfl) (fun hb => ?_) (fun hb => ?_)
  ·have h := h.1 hb
   refine aw_skip ?_
   refine thenQ_n ?_
   refine aw_seq ?_
   refine aw_block ?_
   refine sr ?_
   obtain ⟨o1, h⟩ := h
   refine rq 5 (ob := (Ts 1 (inIdx v25 classv.length ∧ Ts 3 True))) (st' := (⟨78, [sI 1 k, sp 2 2, e53_5, sI 7 many, e53_6, e53_7, sI 10 v25, sI 11 (classv.getD ((v25).toNat) (0 : Int)), e53_9, e53_3 classv, sI 25 v25], [e53_0 m, e53_2 classv, e53_1 number, e53_4 next]⟩ : St)) (by kernel_rfl) (tsI 1 ⟨o1, tsI 3 trivial⟩) ?_
   refine nsr ?_
   refine rqT 4 ⟨78, [sI 1 k, sp 2 2, e53_5, sI 7 many, e53_6, e53_7, sI 10 v25, sp 12 12, e53_9, e53_3 classv, sI 25 v25], [e53_0 m, e53_11 classv v25, e53_2 classv, e53_1 number, e53_4 next]⟩ (by kernel_rfl) ?_
   refine nn ?_
   refine aw_seq ?_
   refine srn 2 ⟨78, [sI 1 k, sp 2 2, e53_5, sI 7 many, e53_6, e53_7, sI 10 v25, sp 12 12, e53_9, e53_3 classv, sI 25 v25, sI 32 k, sI 33 (0 : Int)], [e53_0 m, e53_11 classv v25, e53_2 classv, e53_1 number, e53_4 next]⟩ (by kernel_rfl) rfl ?_
   refine withJoin (σ := LI) (fun s => (⟨78, [sI 1 k, sp 2 2, e53_5, sI 7 many, e53_6, e53_7, sI 10 v25, sp 12 12, e53_9, e53_3 classv, sI 25 v25], [e53_0 m, (12, [], .vec 4 tI s), e53_2 classv, e53_1 number, e53_4 next]⟩ : St)) (fun s => VC53_k2 v25 number next X2 s) (fun key h => ?_) (fun rest3 => ?_)
   ·have h : VC53_k2 v25 number next X2 key := h
    unfold VC53_k2 at h
    refine thenQ_n ?_
    refine srn 8 ⟨78, [sI 1 k, sp 2 2, e53_5, sI 7 many, e53_6, e53_7, sI 10 v25, sp 12 12, sI 14 ((mget number (a4 key)).getD (0 : Int)), sB 15 ((mget number (a4 key)).isSome), e53_9, e53_3 classv, sI 25 v25], [e53_0 m, e53_12 key, e53_2 classv, e53_1 number, e53_4 next]⟩ (by kernel_rfl) rfl ?_
    refine aw_seq ?_
    refine srn 2 ⟨78, [sI 1 k, sp 2 2, e53_5, sI 7 many, e53_6, e53_7, sI 10 v25, sp 12 12, sI 14 ((mget number (a4 key)).getD (0 : Int)), e53_9, e53_3 classv, sI 25 v25, sB 58 (!(mget number (a4 key)).isSome)], [e53_0 m, e53_12 key, e53_2 classv, e53_1 number, e53_4 next]⟩ (by kernel_rfl) rfl ?_
    refine withJoin (σ := Int × (List (LI × Int))) (fun s => (⟨78, [sI 1 k, sp 2 2, e53_5, sI 7 many, e53_6, e53_7, sI 10 v25, sI 14 s.1, e53_9, e53_3 classv, sI 25 v25], [e53_0 m, e53_2 classv, (19, [], .dict (.ar 3 tI) tI s.2), e53_4 next]⟩ : St)) (fun s => VC53_k3 v25 next X2 s.1 s.2) (fun s h => ?_) (fun rest2 => ?_)
    ·obtain ⟨n, number2⟩ := s
     have h : VC53_k3 v25 next X2 n number2 := h
     unfold VC53_k3 at h
     refine thenQ_n ?_
     refine aw_region ?_
     obtain ⟨o1, h⟩ := h
     refine rq 5 (ob := (Ts 3 (inIdx v25 next.length ∧ Ts 1 True))) (st' := (⟨78, [sI 1 k, sp 2 2, e53_5, sI 7 many, e53_6, e53_7, e53_9, e53_3 classv, sI 25 v25], [e53_0 m, e53_2 classv, (19, [], .dict (.ar 3 tI) tI number2), hA 22 3 tI (next.set ((v25).toNat) n)]⟩ : St)) (by kernel_rfl) (tsI 3 ⟨o1, tsI 1 trivial⟩) ?_
     refine awl_nil ?_
     refine blockQ_n ?_
     refine thenQ_n ?_
     refine aw_region ?_
     obtain ⟨o1, h⟩ := h
     refine rq 2 (ob := (InR (v25 + (1 : Int)) ∧ Ts 1 True)) (st' := (⟨78, [sI 1 k, sp 2 2, e53_5, sI 7 many, e53_6, e53_7, e53_9, e53_3 classv, sI 25 (v25 + (1 : Int))], [e53_0 m, e53_2 classv, (19, [], .dict (.ar 3 tI) tI number2), hA 22 3 tI (next.set ((v25).toNat) n)]⟩ : St)) (by kernel_rfl) (⟨o1, tsI 1 trivial⟩) ?_
     refine awl_nil ?_
     exact thenQ_n ⟨((v25 + (1 : Int)), number2, (next.set ((v25).toNat) n)), rfl, h⟩
    ·refine aw_cond (b := (!(mget number (a4 key)).isSome)) (by kernel_rfl) (fun hb => ?_) (fun hb => ?_)
     ·have h := h.1 hb
      refine sr ?_
      obtain ⟨o1, h⟩ := h
      refine rq 3 (ob := (Ts 1 (InR (number.length : Int) ∧ Ts 1 True))) (st' := (⟨78, [sI 1 k, sp 2 2, e53_5, sI 7 many, e53_6, e53_7, sI 10 v25, sp 12 12, sI 14 (number.length : Int), e53_9, e53_3 classv, sI 25 v25], [e53_0 m, e53_12 key, e53_2 classv, e53_1 number, e53_4 next]⟩ : St)) (by kernel_rfl) (tsI 1 ⟨o1, tsI 1 trivial⟩) ?_
      refine nn ?_
      refine aw_region ?_
      refine rqT 4 ⟨78, [sI 1 k, sp 2 2, e53_5, sI 7 many, e53_6, e53_7, sI 10 v25, sI 14 (number.length : Int), e53_9, e53_3 classv, sI 25 v25], [e53_0 m, e53_2 classv, (19, [], .dict (.ar 3 tI) tI (mset number (a4 key) (number.length : Int))), e53_4 next]⟩ (by kernel_rfl) ?_
      refine awl_nil ?_
      exact rest2 ((number.length : Int), (mset number (a4 key) (number.length : Int))) h
     ·have h := h.2 hb
      refine cpr (st' := (⟨78, [sI 1 k, sp 2 2, e53_5, sI 7 many, e53_6, e53_7, sI 10 v25, sI 14 ((mget number (a4 key)).getD (0 : Int)), e53_9, e53_3 classv, sI 25 v25], [e53_0 m, e53_2 classv, e53_1 number, e53_4 next]⟩ : St)) (by kernel_rfl) ?_
      refine aw_skip ?_
      exact rest2 (((mget number (a4 key)).getD (0 : Int)), number) h
   ·refine aw_block ?_
    refine aw_loop (σ := Int × LI) (fun s => (⟨78, [sI 1 k, sp 2 2, e53_5, sI 7 many, e53_6, e53_7, sI 10 v25, sp 12 12, e53_9, e53_3 classv, sI 25 v25, sI 32 k, sI 33 s.1], [e53_0 m, (12, [], .vec 4 tI s.2), e53_2 classv, e53_1 number, e53_4 next]⟩ : St)) (fun s X => VC53_l3 m k classv v25 number next X2 s.1 s.2 X) (s0 := ((0 : Int), [(classv.getD ((v25).toNat) (0 : Int)), (0 : Int), (0 : Int), (0 : Int)])) (fun s X3 h => ?_) h
    obtain ⟨v33, key⟩ := s
    have h : VC53_l3 m k classv v25 number next X2 v33 key X3 := h
    unfold VC53_l3 at h
    refine srn 1 ⟨78, [sI 1 k, sp 2 2, e53_5, sI 7 many, e53_6, e53_7, sI 10 v25, sp 12 12, e53_9, e53_3 classv, sI 25 v25, sI 32 k, sI 33 v33, sB 34 (decide (v33 < k))], [e53_0 m, e53_12 key, e53_2 classv, e53_1 number, e53_4 next]⟩ (by kernel_rfl) rfl ?_
    refine aw_seq ?_
    refine aw_cond (b := (decide (v33 < k))) (by kernel_rfl) (fun hb => ?_) (fun hb => ?_)
    ·have h := h.1 hb
     refine aw_skip ?_
     refine thenQ_n ?_
     refine aw_seq ?_
     refine aw_block ?_
     refine srn 2 ⟨78, [sI 1 k, sp 2 2, e53_5, sI 7 many, e53_6, e53_7, sI 10 v25, sp 12 12, sI 13 v33, e53_9, e53_3 classv, sI 25 v25, sI 32 k, sI 33 v33], [e53_0 m, e53_12 key, e53_2 classv, e53_1 number, e53_4 next]⟩ (by kernel_rfl) rfl ?_
     refine aw_region ?_
     obtain ⟨o1, o2, o3, o4, o5, h⟩ := h
     refine rq 15 (ob := (Ts 1 (InR (v33 + (1 : Int)) ∧ Ts 4 (inIdx v25 m.1.length ∧ Ts 2 (inIdx v33 (m.1.getD (v25).toNat ([] : LI)).length ∧ Ts 1 (inIdx ((m.1.getD (v25).toNat ([] : LI)).getD (v33).toNat (0 : Int)) classv.length ∧ Ts 1 (inIdx (v33 + (1 : Int)) 4 ∧ Ts 1 True))))))) (st' := (⟨78, [sI 1 k, sp 2 2, e53_5, sI 7 many, e53_6, e53_7, sI 10 v25, sp 12 12, e53_9, e53_3 classv, sI 25 v25, sI 32 k, sI 33 v33], [e53_0 m, e53_8 key v33 classv m v25, e53_2 classv, e53_1 number, e53_4 next]⟩ : St)) (by kernel_rfl) (tsI 1 (⟨o1, tsI 4 (⟨o2, tsI 2 (⟨o3, tsI 1 (⟨o4, tsI 1 ⟨o5, tsI 1 trivial⟩⟩)⟩)⟩)⟩)) ?_
     refine awl_nil ?_
     refine blockQ_n ?_
     refine thenQ_n ?_
     refine aw_region ?_
     obtain ⟨o1, h⟩ := h
     refine rq 2 (ob := (InR (v33 + (1 : Int)) ∧ Ts 1 True)) (st' := (⟨78, [sI 1 k, sp 2 2, e53_5, sI 7 many, e53_6, e53_7, sI 10 v25, sp 12 12, e53_9, e53_3 classv, sI 25 v25, sI 32 k, sI 33 (v33 + (1 : Int))], [e53_0 m, e53_8 key v33 classv m v25, e53_2 classv, e53_1 number, e53_4 next]⟩ : St)) (by kernel_rfl) (⟨o1, tsI 1 trivial⟩) ?_
     refine awl_nil ?_
     exact thenQ_n ⟨((v33 + (1 : Int)), (key.set (((v33 + (1 : Int))).toNat) (classv.getD ((((m.1.getD (v25).toNat ([] : LI)).getD (v33).toNat (0 : Int))).toNat) (0 : Int)))), rfl, h⟩
    ·have h := h.2 hb
     refine cpr (st' := (⟨78, [sI 1 k, sp 2 2, e53_5, sI 7 many, e53_6, e53_7, sI 10 v25, sp 12 12, e53_9, e53_3 classv, sI 25 v25], [e53_0 m, e53_12 key, e53_2 classv, e53_1 number, e53_4 next]⟩ : St)) (by kernel_rfl) ?_
     refine aw_exit ?_
     refine thenQ_x ?_
     refine thenQ_x ?_
     refine blockQ_hit ?_
     exact rest3 key h
  ·have h := h.2 hb
   refine cpr (st' := (⟨78, [sI 1 k, sp 2 2, sI 7 many, e53_6, e53_7], [e53_0 m, e53_1 number, e53_4 next]⟩ : St)) (by kernel_rfl) ?_
   refine aw_exit ?_
   refine thenQ_x ?_
   refine thenQ_x ?_
   refine blockQ_hit ?_
   exact rest1 (number, next) h
-- coppicer/after.Sure$1$1
def VC56 (x : Int) (a1 : LI) (a2 : Int) (K : Bool → Prop) : Prop :=
  (inIdx x a1.length ∧ inIdx a2 a1.length ∧ K (decide ((a1.getD (x).toNat (0 : Int)) = (a1.getD (a2).toNat (0 : Int)))))
set_option maxHeartbeats 4000000 in
theorem link56 (x : Int) (a1 : LI) (a2 : Int) (K : Bool → Prop) (h : VC56 x a1 a2 K) : ACalls Try.prog 56 [toV1 tI x, .c (.ad (.sl tI) a1), .c (.ad tI a2)] (fun res => ∃ y, res = (fun y => [toV1 .bool y]) y ∧ K y) := by
 refine acalls_of_aw [.bool] [.t 4] Try.func56 rfl rfl rfl ?_
 unfold VC56 at h
 refine srn 1 ⟨14, [sI 0 x, s1 1 (.ad (.sl tI) a1), s1 2 (.ad tI a2)], []⟩ (by kernel_rfl) rfl ?_
 refine aw_seq ?_
 refine awd_begin [] (by kernel_rfl) ?_
 obtain ⟨o1, o2, h⟩ := h
 refine drq (by kernel_rfl) [0, 1, 2, 3, 4, 5, 6, 7, 8, 9] (ob := (Ts 2 (inIdx x a1.length ∧ Ts 3 (inIdx a2 a1.length ∧ Ts 3 True)))) (done' := [9, 8, 7, 6, 5, 4, 3, 2, 1, 0]) (st' := (⟨14, [sB 4 (decide ((a1.getD (x).toNat (0 : Int)) = (a1.getD (a2).toNat (0 : Int))))], []⟩ : St)) (by kernel_rfl) (tsI 2 (⟨o1, tsI 3 ⟨o2, tsI 3 trivial⟩⟩)) ?_
 refine awd_done (by kernel_rfl) ?_
 refine thenQ_n ?_
 refine aw_ret ?_
 exact retQ_r (ob := Ts 1 True) _ (by kernel_rfl) (tsI 1 trivial) h
abbrev e55_0 (sv : LI) : Nat × Path × AV := sI 7 (sv.length : Int)
-- slices.IndexFunc[[]int,int]
def VC55_k1 (K : Int → Prop) : Prop :=
  K (-1 : Int)
def VC55_l1 (sv : LI) (F1 : Int → (Bool → Prop) → Prop) (K : Int → Prop) (v8 : Int) (X1 : Int → Prop) : Prop :=
  (((decide (v8 < (sv.length : Int))) = true → (inIdx v8 sv.length ∧ F1 (sv.getD (v8).toNat (0 : Int)) (fun (ret16v : Bool) => ((ret16v = true → K v8) ∧ (ret16v = false → (InR (v8 + (1 : Int)) ∧ X1 (v8 + (1 : Int)))))))) ∧ ((decide (v8 < (sv.length : Int))) = false → VC55_k1 K))
def VC55 (sv : LI) (F1 : Int → (Bool → Prop) → Prop) (K : Int → Prop) : Prop :=
  Loop (σ := Int) (fun s X => VC55_l1 sv F1 K s X) (0 : Int)
set_option maxHeartbeats 4000000 in
theorem link55 (sv : LI) (fv1 : FuncId) (cv1 : List Dat) (F1 : Int → (Bool → Prop) → Prop) (hF1 : FnIs Try.prog fv1 cv1 (fun (x : Int) => [toV1 tI x]) (fun (y : Bool) => [toV1 .bool y]) F1) (K : Int → Prop) (h : VC55 sv F1 K) : ACalls Try.prog 55 [toV1 (.sl tI) sv, .c (.fn fv1 cv1)] (fun res => ∃ y, res = (fun y => [toV1 tI y]) y ∧ K y) := by
 refine acalls_of_aw [tI] [.t 4] Try.func55 rfl rfl rfl ?_
 unfold VC55 at h
 refine srn 1 ⟨19, [s1 0 (.pS sv), s1 1 (.fn fv1 cv1)], []⟩ (by kernel_rfl) rfl ?_
 refine aw_seq ?_
 refine srn 3 ⟨19, [s1 0 (.pS sv), s1 1 (.fn fv1 cv1), e55_0 sv, sI 8 (0 : Int)], []⟩ (by kernel_rfl) rfl ?_
 refine withJoin (σ := Unit) (fun s => (⟨19, [], []⟩ : St)) (fun s => VC55_k1 K) (fun s h => ?_) (fun rest1 => ?_)
 ·have h : VC55_k1 K := h
  unfold VC55_k1 at h
  refine thenQ_n ?_
  refine srn 1 ⟨19, [sI 4 (-1 : Int)], []⟩ (by kernel_rfl) rfl ?_
  refine aw_ret ?_
  exact retQ_r (ob := Ts 1 True) _ (by kernel_rfl) (tsI 1 trivial) h
 ·refine aw_block ?_
  refine aw_loop (σ := Int) (fun s => (⟨19, [s1 0 (.pS sv), s1 1 (.fn fv1 cv1), e55_0 sv, sI 8 s], []⟩ : St)) (fun s X => VC55_l1 sv F1 K s X) (s0 := (0 : Int)) (fun v8 X1 h => ?_) h
  have h : VC55_l1 sv F1 K v8 X1 := h
  unfold VC55_l1 at h
  refine srn 1 ⟨19, [s1 0 (.pS sv), s1 1 (.fn fv1 cv1), e55_0 sv, sI 8 v8, sB 9 (decide (v8 < (sv.length : Int)))], []⟩ (by kernel_rfl) rfl ?_
  refine aw_seq ?_
  refine aw_cond (b := (decide (v8 < (sv.length : Int)))) (by kernel_rfl) (fun hb => ?_) (fun hb => ?_)
  ·have h := h.1 hb
   refine aw_skip ?_
   refine thenQ_n ?_
   refine aw_seq ?_
   refine aw_block ?_
   refine sr ?_
   refine rqT 2 ⟨19, [s1 0 (.pS sv), s1 1 (.fn fv1 cv1), sI 5 v8, e55_0 sv, sI 8 v8], []⟩ (by kernel_rfl) ?_
   refine nsr ?_
   obtain ⟨o1, h⟩ := h
   refine rq 5 (ob := (Ts 3 (inIdx v8 sv.length ∧ Ts 1 True))) (st' := (⟨19, [s1 0 (.pS sv), s1 1 (.fn fv1 cv1), sI 5 v8, e55_0 sv, sI 8 v8, s1 11 (.fn fv1 cv1), sI 15 (sv.getD (v8).toNat (0 : Int))], []⟩ : St)) (by kernel_rfl) (tsI 3 ⟨o1, tsI 1 trivial⟩) ?_
   refine lcq (d := 16) [.d tI] (fun ret16v => (⟨19, [s1 0 (.pS sv), s1 1 (.fn fv1 cv1), sI 5 v8, e55_0 sv, sI 8 v8, sB 16 ret16v], []⟩ : St)) (by kernel_rfl) hF1.1 (fun _ => by kernel_rfl) (hF1.2 (sv.getD (v8).toNat (0 : Int)) _ h) (fun ret16v h => ?_)
   refine nn ?_
   refine aw_cond (b := ret16v) (by kernel_rfl) (fun hb => ?_) (fun hb => ?_)
   ·have h := h.1 hb
    refine srn 2 ⟨19, [sI 4 v8], []⟩ (by kernel_rfl) rfl ?_
    refine aw_ret ?_
    refine blockQ_r ?_
    refine thenQ_r ?_
    refine thenQ_r ?_
    refine blockQ_r ?_
    refine thenQ_r ?_
    exact retQ_r (ob := Ts 1 True) _ (by kernel_rfl) (tsI 1 trivial) h
   ·have h := h.2 hb
    refine aw_skip ?_
    refine blockQ_n ?_
    refine thenQ_n ?_
    refine aw_region ?_
    obtain ⟨o1, h⟩ := h
    refine rq 2 (ob := (InR (v8 + (1 : Int)) ∧ Ts 1 True)) (st' := (⟨19, [s1 0 (.pS sv), s1 1 (.fn fv1 cv1), e55_0 sv, sI 8 (v8 + (1 : Int))], []⟩ : St)) (by kernel_rfl) (⟨o1, tsI 1 trivial⟩) ?_
    refine awl_nil ?_
    exact thenQ_n ⟨(v8 + (1 : Int)), rfl, h⟩
  ·have h := h.2 hb
   refine cpr (st' := (⟨19, [], []⟩ : St)) (by kernel_rfl) ?_
   refine aw_exit ?_
   refine thenQ_x ?_
   refine thenQ_x ?_
   refine blockQ_hit ?_
   exact rest1 () h
abbrev e28_0 : Nat × Path × Con := hB 4 [.pI (0 : Int), .pI (0 : Int), .nils, .pI (0 : Int), .pW (0 : Int)]
abbrev e28_1 (ret25v : (LL × LI)) : Nat × Path × Con := hB 7 [.p (.sl (.sl tI)) ret25v.1, .pS ret25v.2]
abbrev e28_2 (ret29v : LI × Int) (k : Int) (out : Int) : Nat × Path × Con := hB 10 [.pI ret29v.2, .pI k, .own 6202, .pI (0 : Int), .pW out]
abbrev e28_3 (ret29v : LI × Int) : Nat × Path × AV := s1 12 (.cl 54 [.pt 11 0, .ad ⟨(.sl tI), ret29v.1⟩])
abbrev e28_4 (l6202 : LL) : Nat × Path × Con := hA 6202 26 (.sl tI) l6202
abbrev e28_5 (ret29v : LI × Int) : Nat × Path × AV := s1 30 (.cl 54 [.pt 11 0, .ad ⟨(.sl tI), ret29v.1⟩])
abbrev e28_6 (k : Int) : Nat × Path × AV := sI 67 ((List.replicate (k).toNat (0 : Int)).length : Int)
abbrev e28_7 (ret25v : (LL × LI)) (l382 : LI) (i : Int) (v50 : Int) : Nat × Path × AV := s1 3 (.ad tI ((ret25v.1.getD ((l382.getD ((i).toNat) (0 : Int))).toNat ([] : LI)).getD (v50).toNat (0 : Int)))
abbrev e28_8 (k : Int) : Nat × Path × AV := sI 49 ((List.replicate (k).toNat (0 : Int)).length : Int)
abbrev e28_9 (row : LI) : Nat × Path × Con := hA 47 3 tI row
abbrev e28_10 (l382 : LI) : Nat × Path × Con := hA 38 3 tI l382
abbrev e28_11 : Nat × Path × Con := hB 11 [.own 38]
abbrev e28_12 (ret29v : LI × Int) : Nat × Path × AV := s1 55 (.cl 54 [.pt 11 0, .ad ⟨(.sl tI), ret29v.1⟩])
abbrev e28_13 (ret25v : (LL × LI)) (l382 : LI) (i : Int) (v50 : Int) : Nat × Path × Con := hB 3 [.pI ((ret25v.1.getD ((l382.getD ((i).toNat) (0 : Int))).toNat ([] : LI)).getD (v50).toNat (0 : Int))]
abbrev e28_14 : Nat × Path × AV := s1 32 (.own 47)
abbrev e28_15 : Nat × Path × AV := s1 71 (.own 47)
abbrev e28_16 : Nat × Path × AV := s1 14 (.own 47)
abbrev e28_17 (ret29v : LI × Int) : Nat × Path × AV := s1 2 (.ad (.sl tI) ret29v.1)
abbrev e28_18 : Nat × Path × AV := sp 10 10
abbrev e28_19 : Nat × Path × AV := sp 11 11
abbrev e28_20 (l6202 : LL) (row : LI) : Nat × Path × Con := hA 74 26 (.sl tI) (l6202 ++ [row])
abbrev e28_21 (l382 : LI) (ret25v : (LL × LI)) (i : Int) (v50 : Int) : Nat × Path × Con := hA 16 3 tI (l382 ++ [((ret25v.1.getD ((l382.getD ((i).toNat) (0 : Int))).toNat ([] : LI)).getD (v50).toNat (0 : Int))])
abbrev e28_22 (ret29v : LI × Int) (k : Int) (out : Int) : Nat × Path × Con := hB 10 [.pI ret29v.2, .pI k, .own 74, .pI (0 : Int), .pW out]
abbrev e28_23 : Nat × Path × Con := hB 11 [.own 16]
abbrev e28_24 (ret29v : LI × Int) (k : Int) : Nat × Path × Con := hB 10 [.pI ret29v.2, .pI k, .nils, .pI (0 : Int), .pW (0 : Int)]
abbrev e28_25 : Nat × Path × AV := sp 28 10
abbrev e28_26 : Nat × Path × AV := sp 29 11
abbrev e28_27 (ret25v : (LL × LI)) (l382 : LI) (i : Int) (v50 : Int) : Nat × Path × AV := sI 66 ((ret25v.1.getD ((l382.getD ((i).toNat) (0 : Int))).toNat ([] : LI)).getD (v50).toNat (0 : Int))
abbrev e28_28 (ret25v : (LL × LI)) (l382 : LI) (i : Int) (v50 : Int) : Nat × Path × AV := sI 84 ((ret25v.1.getD ((l382.getD ((i).toNat) (0 : Int))).toNat ([] : LI)).getD (v50).toNat (0 : Int))
abbrev e28_29 (ret25v : (LL × LI)) (l382 : LI) (i : Int) (v50 : Int) : Nat × Path × AV := sI 0 ((ret25v.1.getD ((l382.getD ((i).toNat) (0 : Int))).toNat ([] : LI)).getD (v50).toNat (0 : Int))
abbrev e28_30 (ret25v : (LL × LI)) : Nat × Path × AV := s1 57 (.p (.sl (.sl tI)) ret25v.1)
abbrev e28_31 (l16 : LI) : Nat × Path × Con := hA 16 3 tI l16
abbrev e28_32 : Nat × Path × AV := s1 53 (.own 47)
abbrev e28_33 (ret29v : LI × Int) : Nat × Path × AV := s1 73 (.cl 54 [.pt 11 0, .ad ⟨(.sl tI), ret29v.1⟩])
abbrev e28_34 (l382 : LI) (i : Int) : Nat × Path × AV := sI 61 (l382.getD ((i).toNat) (0 : Int))
abbrev e28_35 : Nat × Path × Con := hA 38 3 tI [(0 : Int)]
abbrev e28_36 (l382 : LI) : Nat × Path × AV := sI 5 (l382.length : Int)
abbrev e28_37 : Nat × Path × AV := s1 6 (.own 38)
abbrev e28_n0 : List Nat := [4, 7, 10, 11, 38, 47, 6202]
abbrev e28_n1 : List Nat := [1, 3, 8, 18, 22, 25, 28, 29, 30, 31, 32, 67, 68, 71, 72]
abbrev e28_n2 : List Nat := [5, 18, 22, 25, 28, 29, 30, 31, 32, 67, 68, 71, 72]
-- coppicer/after.Sure
def VC28_k1 (k : Int) (K : (Int × (Int × (LL × (Int × Int)))) × Int → Prop) (ret29v : LI × Int) (out : Int) (l6202 : LL) : Prop :=
  K ((ret29v.2, (k, (l6202, ((0 : Int), out)))), (0 : Int))
def VC28_k3 (i : Int) (l6202 : LL) (X1 : Int × Int × LI × LL → Prop) (l382 : LI) (row : LI) (out2 : Int) : Prop :=
  (InR (i + (1 : Int)) ∧ X1 ((i + (1 : Int)), out2, l382, (l6202 ++ [row])))
def VC28_k2 (ret25v : (LL × LI)) (i : Int) (out : Int) (l6202 : LL) (X1 : Int × Int × LI × LL → Prop) (l382 : LI) (row : LI) : Prop :=
  (roomN (l6202.length + [row].length) ∧ (inIdx i l382.length ∧ inIdx (l382.getD ((i).toNat) (0 : Int)) ret25v.2.length ∧ (((decide ((ret25v.2.getD ((l382.getD ((i).toNat) (0 : Int))).toNat (0 : Int)) = (1 : Int))) = true → (0 ≤ i ∧ VC28_k3 i l6202 X1 l382 row (bOr .u32 out (bShl .u32 (1 : Int) i)))) ∧ ((decide ((ret25v.2.getD ((l382.getD ((i).toNat) (0 : Int))).toNat (0 : Int)) = (1 : Int))) = false → VC28_k3 i l6202 X1 l382 row out))))
def VC28_k4 (v50 : Int) (X2 : Int × LI × LI → Prop) (l16 : LI) (row2 : LI) : Prop :=
  (InR (v50 + (1 : Int)) ∧ X2 ((v50 + (1 : Int)), l16, row2))
def VC28_k5 (v50 : Int) (row : LI) (X2 : Int × LI × LI → Prop) (n : Int) (l16 : LI) : Prop :=
  (inIdx v50 row.length ∧ VC28_k4 v50 X2 l16 (row.set ((v50).toNat) n))
def VC28_k6 (v50 : Int) (row : LI) (X2 : Int × LI × LI → Prop) (n : Int) (l16 : LI) : Prop :=
  (inIdx v50 row.length ∧ VC28_k4 v50 X2 l16 (row.set ((v50).toNat) n))
def VC28_k7 (v50 : Int) (row : LI) (X2 : Int × LI × LI → Prop) (n : Int) (l16 : LI) : Prop :=
  (inIdx v50 row.length ∧ VC28_k4 v50 X2 l16 (row.set ((v50).toNat) n))
def VC28_l2 (k : Int) (K : (Int × (Int × (LL × (Int × Int)))) × Int → Prop) (ret25v : (LL × LI)) (ret29v : LI × Int) (i : Int) (out : Int) (l6202 : LL) (X1 : Int × Int × LI × LL → Prop) (v50 : Int) (l382 : LI) (row : LI) (X2 : Int × LI × LI → Prop) : Prop :=
  (((decide (v50 < ((List.replicate (k).toNat (0 : Int)).length : Int))) = true → ((inIdx i l382.length ∧ (inIdx (l382.getD ((i).toNat) (0 : Int)) ret25v.1.length ∧ inIdx v50 (ret25v.1.getD ((l382.getD ((i).toNat) (0 : Int))).toNat ([] : LI)).length ∧ VC55 l382 (fun (x : Int) (K : Bool → Prop) => VC56 x ret29v.1 ((ret25v.1.getD ((l382.getD ((i).toNat) (0 : Int))).toNat ([] : LI)).getD (v50).toNat (0 : Int)) K) (fun (ret8v : Int) => (((decide (ret8v < (0 : Int))) = true → (roomN (l382.length + [((ret25v.1.getD ((l382.getD ((i).toNat) (0 : Int))).toNat ([] : LI)).getD (v50).toNat (0 : Int))].length) ∧ VC28_k5 v50 row X2 (l382.length : Int) (l382 ++ [((ret25v.1.getD ((l382.getD ((i).toNat) (0 : Int))).toNat ([] : LI)).getD (v50).toNat (0 : Int))]))) ∧ ((decide (ret8v < (0 : Int))) = false → VC28_k5 v50 row X2 ret8v l382))))) ∧ (inIdx i l382.length ∧ ((inIdx (l382.getD ((i).toNat) (0 : Int)) ret25v.1.length ∧ inIdx v50 (ret25v.1.getD ((l382.getD ((i).toNat) (0 : Int))).toNat ([] : LI)).length ∧ VC55 l382 (fun (x : Int) (K : Bool → Prop) => VC56 x ret29v.1 ((ret25v.1.getD ((l382.getD ((i).toNat) (0 : Int))).toNat ([] : LI)).getD (v50).toNat (0 : Int)) K) (fun (ret8v : Int) => (((decide (ret8v < (0 : Int))) = true → (roomN (l382.length + [((ret25v.1.getD ((l382.getD ((i).toNat) (0 : Int))).toNat ([] : LI)).getD (v50).toNat (0 : Int))].length) ∧ VC28_k6 v50 row X2 (l382.length : Int) (l382 ++ [((ret25v.1.getD ((l382.getD ((i).toNat) (0 : Int))).toNat ([] : LI)).getD (v50).toNat (0 : Int))]))) ∧ ((decide (ret8v < (0 : Int))) = false → VC28_k6 v50 row X2 ret8v l382)))) ∧ (inIdx (l382.getD ((i).toNat) (0 : Int)) ret25v.1.length ∧ inIdx v50 (ret25v.1.getD ((l382.getD ((i).toNat) (0 : Int))).toNat ([] : LI)).length ∧ VC55 l382 (fun (x : Int) (K : Bool → Prop) => VC56 x ret29v.1 ((ret25v.1.getD ((l382.getD ((i).toNat) (0 : Int))).toNat ([] : LI)).getD (v50).toNat (0 : Int)) K) (fun (ret8v : Int) => (((decide (ret8v < (0 : Int))) = true → (roomN (l382.length + [((ret25v.1.getD ((l382.getD ((i).toNat) (0 : Int))).toNat ([] : LI)).getD (v50).toNat (0 : Int))].length) ∧ VC28_k7 v50 row X2 (l382.length : Int) (l382 ++ [((ret25v.1.getD ((l382.getD ((i).toNat) (0 : Int))).toNat ([] : LI)).getD (v50).toNat (0 : Int))]))) ∧ ((decide (ret8v < (0 : Int))) = false → VC28_k7 v50 row X2 ret8v l382)))))))) ∧ ((decide (v50 < ((List.replicate (k).toNat (0 : Int)).length : Int))) = false → VC28_k2 ret25v i out l6202 X1 l382 row))
def VC28_l1 (k : Int) (K : (Int × (Int × (LL × (Int × Int)))) × Int → Prop) (ret25v : (LL × LI)) (ret29v : LI × Int) (i : Int) (out : Int) (l38 : LI) (l6202 : LL) (X1 : Int × Int × LI × LL → Prop) : Prop :=
  (((decide (i < (l38.length : Int))) = true → (room k ∧ Loop (σ := Int × LI × LI) (fun s X => VC28_l2 k K ret25v ret29v i out l6202 X1 s.1 s.2.1 s.2.2 X) ((0 : Int), l38, (List.replicate (k).toNat (0 : Int))))) ∧ ((decide (i < (l38.length : Int))) = false → VC28_k1 k K ret29v out l6202))
def VC28 (k : Int) (l : LN) (K : (Int × (Int × (LL × (Int × Int)))) × Int → Prop) : Prop :=
  VC45 k l (fun (ret18v : Int) => (((!decide (ret18v = (0 : Int))) = true → K (((0 : Int), ((0 : Int), (([] : LL), ((0 : Int), (0 : Int))))), ret18v)) ∧ ((!decide (ret18v = (0 : Int))) = false → VC52 k l (fun (ret25v : (LL × LI)) => VC53 ret25v k (fun (ret29v : LI × Int) => (((decide ((7 : Int) < ret29v.2)) = true → K (((0 : Int), ((0 : Int), (([] : LL), ((0 : Int), (0 : Int))))), (1 : Int))) ∧ ((decide ((7 : Int) < ret29v.2)) = false → Loop (σ := Int × Int × LI × LL) (fun s X => VC28_l1 k K ret25v ret29v s.1 s.2.1 s.2.2.1 s.2.2.2 X) ((0 : Int), (0 : Int), [(0 : Int)], ([] : List LI)))))))))
set_option maxHeartbeats 4000000 in
theorem link28 (k : Int) (l : LN) (K : (Int × (Int × (LL × (Int × Int)))) × Int → Prop) (h : VC28 k l K) : ACalls Try.prog 28 [toV1 tI k, toV1 (.sl t3) l] (fun res => ∃ y, res = (fun y => [toV1 (.pr tI (.pr tI (.pr (.sl (.sl tI)) (.pr tI (.int .u32))))) y.1, toV1 tI y.2]) y ∧ K y) := by
 refine acalls_of_aw [(.pr tI (.pr tI (.pr (.sl (.sl tI)) (.pr tI (.int .u32))))), tI] [.c 4 41, .t 5] Try.func28 rfl rfl rfl ?_
 unfold VC28 at h
 refine srn 2 ⟨92, [sI 0 k, s1 1 (.p (.sl t3) l), sp 4 4], [e28_0]⟩ (by kernel_rfl) rfl ?_
 refine aw_seq ?_
 refine sr ?_
 refine rqT 2 ⟨92, [sI 0 k, s1 1 (.p (.sl t3) l), sp 4 4, sI 16 k, s1 17 (.p (.sl t3) l)], [e28_0]⟩ (by kernel_rfl) ?_
 refine lcq (d := 18) [.d tI, .d (.sl t3)] (fun ret18v => (⟨92, [sI 0 k, s1 1 (.p (.sl t3) l), sp 4 4, sI 18 ret18v], [e28_0]⟩ : St)) (by kernel_rfl) Try.call45 (fun _ => by kernel_rfl) (link45 k l _ h) (fun ret18v h => ?_)
 refine rqT 1 ⟨92, [sI 0 k, s1 1 (.p (.sl t3) l), sp 4 4, sI 6 ret18v], [e28_0]⟩ (by kernel_rfl) ?_
 refine nsr ?_
 refine rqT 2 ⟨92, [sI 0 k, s1 1 (.p (.sl t3) l), sp 4 4, sI 6 ret18v, sB 20 (!decide (ret18v = (0 : Int)))], [e28_0]⟩ (by kernel_rfl) ?_
 refine nn ?_
 refine aw_cond (b := (!decide (ret18v = (0 : Int)))) (by kernel_rfl) (fun hb => ?_) (fun hb => ?_)
 ·have h := h.1 hb
  refine srn 4 ⟨92, [sp 4 4, sI 5 ret18v], [e28_0]⟩ (by kernel_rfl) rfl ?_
  refine aw_ret ?_
  refine thenQ_r ?_
  exact retQ_r (ob := Ts 2 True) _ (by kernel_rfl) (tsI 2 trivial) h
 ·have h := h.2 hb
  refine aw_skip ?_
  refine thenQ_n ?_
  refine sr ?_
  refine rqT 2 ⟨92, [sI 0 k, sp 4 4, sI 23 k, s1 24 (.p (.sl t3) l)], [e28_0]⟩ (by kernel_rfl) ?_
  refine lcq (d := 25) [.d tI, .d (.sl t3)] (fun ret25v => (⟨92, [sI 0 k, sp 4 4, sA 25 [.p (.sl (.sl tI)) ret25v.1, .pS ret25v.2]], [e28_0]⟩ : St)) (by kernel_rfl) Try.call52 (fun _ => by kernel_rfl) (link52 k l _ h) (fun ret25v h => ?_)
  refine rqT 2 ⟨92, [sI 0 k, sp 4 4, sp 7 7], [e28_0, e28_1 ret25v]⟩ (by kernel_rfl) ?_
  refine nsr ?_
  refine rqT 2 ⟨92, [sI 0 k, sp 4 4, sp 7 7, sA 27 [.p (.sl (.sl tI)) ret25v.1, .pS ret25v.2], sI 28 k], [e28_0, e28_1 ret25v]⟩ (by kernel_rfl) ?_
  refine lcq (d := 29) [.d (.pr (.sl (.sl tI)) (.sl tI)), .d tI] (fun ret29v => (⟨92, [sI 0 k, sp 4 4, sp 7 7, (29, [], .tup [.c (.pS ret29v.1), .c (.pI ret29v.2)])], [e28_0, e28_1 ret25v]⟩ : St)) (by kernel_rfl) Try.call53 (fun _ => by kernel_rfl) (link53 ret25v k _ h) (fun ret29v h => ?_)
  refine rqT 6 ⟨92, [sI 0 k, sp 4 4, sp 7 7, sp 8 8, sI 9 ret29v.2], [e28_0, e28_1 ret25v, hB 8 [.pS ret29v.1]]⟩ (by kernel_rfl) ?_
  refine nn ?_
  refine aw_seq ?_
  refine srn 2 ⟨92, [sI 0 k, sp 4 4, sp 7 7, sp 8 8, sI 9 ret29v.2, sB 33 (decide ((7 : Int) < ret29v.2))], [e28_0, e28_1 ret25v, hB 8 [.pS ret29v.1]]⟩ (by kernel_rfl) rfl ?_
  refine aw_cond (b := (decide ((7 : Int) < ret29v.2))) (by kernel_rfl) (fun hb => ?_) (fun hb => ?_)
  ·have h := h.1 hb
   refine srn 3 ⟨92, [sp 4 4, sI 5 (1 : Int)], [e28_0]⟩ (by kernel_rfl) rfl ?_
   refine aw_ret ?_
   refine thenQ_r ?_
   exact retQ_r (ob := Ts 2 True) _ (by kernel_rfl) (tsI 2 trivial) h
  ·have h := h.2 hb
   refine aw_skip ?_
   refine thenQ_n ?_
   refine sr ?_
   refine rqT 5 ⟨92, [sI 0 k, sp 4 4, sp 7 7, sp 8 8, e28_18], [e28_0, e28_1 ret25v, hB 8 [.pS ret29v.1], e28_24 ret29v k]⟩ (by kernel_rfl) ?_
   refine nsr ?_
   refine rqT 3 ⟨92, [sI 0 k, sp 4 4, sp 7 7, sp 8 8, e28_18, e28_19], [e28_0, e28_1 ret25v, hB 8 [.pS ret29v.1], e28_24 ret29v k, e28_11, e28_35]⟩ (by kernel_rfl) ?_
   refine nsr ?_
   refine awl_conv [.freezeB 8 (.sl tI)] (st' := (⟨92, [sI 0 k, sp 4 4, sp 7 7, s1 8 (.ad (.sl tI) ret29v.1), e28_18, e28_19], [e28_0, e28_1 ret25v, e28_24 ret29v k, e28_11, e28_35]⟩ : St)) (by kernel_rfl) ?_
   refine rqT 2 ⟨92, [sI 0 k, sp 4 4, sp 7 7, e28_18, e28_19, e28_3 ret29v], [e28_0, e28_1 ret25v, e28_24 ret29v k, e28_11, e28_35]⟩ (by kernel_rfl) ?_
   refine nn ?_
   refine aw_seq ?_
   refine srn 1 ⟨92, [sI 0 k, sp 4 4, sp 7 7, e28_18, e28_19, e28_3 ret29v, sI 13 (0 : Int)], [e28_0, e28_1 ret25v, e28_24 ret29v k, e28_11, e28_35]⟩ (by kernel_rfl) rfl ?_
   refine withJoin (σ := Int × LL) (fun s => (⟨92, [sp 4 4, e28_18], [e28_0, hB 10 [.pI ret29v.2, .pI k, .own 6202, .pI (0 : Int), .pW s.1], hA 6202 26 (.sl tI) s.2]⟩ : St)) (fun s => VC28_k1 k K ret29v s.1 s.2) (fun s h => ?_) (fun rest1 => ?_)
   ·obtain ⟨out, l6202⟩ := s
    have h : VC28_k1 k K ret29v out l6202 := h
    unfold VC28_k1 at h
    refine thenQ_n ?_
    refine srn 3 ⟨92, [sp 4 4, sI 5 (0 : Int)], [hB 4 [.pI ret29v.2, .pI k, .own 6202, .pI (0 : Int), .pW out], e28_4 l6202]⟩ (by kernel_rfl) rfl ?_
    refine aw_conv [.freeze 6202] (st' := (⟨92, [sp 4 4, sI 5 (0 : Int)], [hB 4 [.pI ret29v.2, .pI k, .p (.sl (.sl tI)) l6202, .pI (0 : Int), .pW out]]⟩ : St)) (by kernel_rfl) ?_
    refine aw_ret ?_
    exact retQ_r (ob := Ts 2 True) _ (by kernel_rfl) (tsI 2 trivial) h
   ·refine aw_block ?_
    refine aw_conv [.nilOwnB 10 2 6202 26 (.sl tI), .prune [0, 4, 7, 10, 11, 12, 13] [4, 7, 10, 11, 38, 6202]] (st' := (⟨92, [sI 0 k, sp 4 4, sp 7 7, e28_18, e28_19, e28_3 ret29v, sI 13 (0 : Int)], [e28_0, e28_1 ret25v, hB 10 [.pI ret29v.2, .pI k, .own 6202, .pI (0 : Int), .pW (0 : Int)], e28_11, e28_35, hA 6202 26 (.sl tI) ([] : List LI)]⟩ : St)) (by kernel_rfl) ?_
    refine aw_loop (σ := Int × Int × LI × LL) (fun s => (⟨92, [sI 0 k, sp 4 4, sp 7 7, e28_18, e28_19, e28_3 ret29v, sI 13 s.1], [e28_0, e28_1 ret25v, hB 10 [.pI ret29v.2, .pI k, .own 6202, .pI (0 : Int), .pW s.2.1], e28_11, hA 38 3 tI s.2.2.1, hA 6202 26 (.sl tI) s.2.2.2]⟩ : St)) (fun s X => VC28_l1 k K ret25v ret29v s.1 s.2.1 s.2.2.1 s.2.2.2 X) (s0 := ((0 : Int), (0 : Int), [(0 : Int)], ([] : List LI))) (fun s X1 h => ?_) h
    obtain ⟨i, out, l38, l6202⟩ := s
    have h : VC28_l1 k K ret25v ret29v i out l38 l6202 X1 := h
    unfold VC28_l1 at h
    refine aw_seq ?_
    refine srn 4 ⟨92, [sI 0 k, sp 4 4, sp 7 7, e28_18, e28_19, e28_3 ret29v, sI 13 i, sB 43 (decide (i < (l38.length : Int)))], [e28_0, e28_1 ret25v, e28_2 ret29v k out, e28_11, hA 38 3 tI l38, e28_4 l6202]⟩ (by kernel_rfl) rfl ?_
    refine aw_cond (b := (decide (i < (l38.length : Int)))) (by kernel_rfl) (fun hb => ?_) (fun hb => ?_)
    ·have h := h.1 hb
     refine aw_skip ?_
     refine thenQ_n ?_
     refine aw_seq ?_
     refine aw_block ?_
     refine sr ?_
     obtain ⟨o1, h⟩ := h
     refine rq 3 (ob := (Ts 1 (room k ∧ Ts 1 True))) (st' := (⟨92, [sI 0 k, sp 4 4, sp 7 7, e28_18, e28_19, e28_3 ret29v, sI 13 i, e28_16], [e28_0, e28_1 ret25v, e28_2 ret29v k out, e28_11, hA 38 3 tI l38, hA 47 3 tI (List.replicate (k).toNat (0 : Int)), e28_4 l6202]⟩ : St)) (by kernel_rfl) (tsI 1 ⟨o1, tsI 1 trivial⟩) ?_
     refine nn ?_
     refine aw_seq ?_
     refine srn 3 ⟨92, [sI 0 k, sp 4 4, sp 7 7, e28_18, e28_19, e28_3 ret29v, sI 13 i, e28_16, e28_8 k, sI 50 (0 : Int)], [e28_0, e28_1 ret25v, e28_2 ret29v k out, e28_11, hA 38 3 tI l38, hA 47 3 tI (List.replicate (k).toNat (0 : Int)), e28_4 l6202]⟩ (by kernel_rfl) rfl ?_
     refine withJoin (σ := LI × LI) (fun s => (⟨92, [sI 0 k, sp 4 4, sp 7 7, e28_18, e28_19, e28_3 ret29v, sI 13 i, e28_16], [e28_0, e28_1 ret25v, e28_2 ret29v k out, e28_11, hA 38 3 tI s.1, hA 47 3 tI s.2, e28_4 l6202]⟩ : St)) (fun s => VC28_k2 ret25v i out l6202 X1 s.1 s.2) (fun s h => ?_) (fun rest3 => ?_)
     ·obtain ⟨l382, row⟩ := s
      have h : VC28_k2 ret25v i out l6202 X1 l382 row := h
      unfold VC28_k2 at h
      refine thenQ_n ?_
      refine sr ?_
      refine rqT 3 ⟨92, [sI 0 k, sp 4 4, sp 7 7, e28_18, e28_19, e28_3 ret29v, sI 13 i, s1 71 (.own 6202), s1 72 (.own 47)], [e28_0, e28_1 ret25v, e28_2 ret29v k out, e28_11, e28_10 l382, e28_9 row, e28_4 l6202]⟩ (by kernel_rfl) ?_
      refine awl_conv [.freeze 47] (st' := (⟨92, [sI 0 k, sp 4 4, sp 7 7, e28_18, e28_19, e28_3 ret29v, sI 13 i, s1 71 (.own 6202), s1 72 (.pS row)], [e28_0, e28_1 ret25v, e28_2 ret29v k out, e28_11, e28_10 l382, e28_4 l6202]⟩ : St)) (by kernel_rfl) ?_
      obtain ⟨o1, h⟩ := h
      refine rq 4 (ob := (Ts 1 (roomN (l6202.length + [row].length) ∧ Ts 2 True))) (st' := (⟨92, [sI 0 k, sp 4 4, sp 7 7, e28_18, e28_19, e28_3 ret29v, sI 13 i], [e28_0, e28_1 ret25v, e28_22 ret29v k out, e28_11, e28_10 l382, e28_20 l6202 row]⟩ : St)) (by kernel_rfl) (tsI 1 ⟨o1, tsI 2 trivial⟩) ?_
      refine nn ?_
      refine aw_seq ?_
      refine awd_begin [] (by kernel_rfl) ?_
      obtain ⟨o1, o2, h⟩ := h
      refine drq (by kernel_rfl) [0, 1, 2, 3, 4, 5, 6, 7, 8] (ob := (Ts 4 (inIdx i l382.length ∧ Ts 1 (inIdx (l382.getD ((i).toNat) (0 : Int)) ret25v.2.length ∧ Ts 2 True)))) (done' := [8, 7, 6, 5, 4, 3, 2, 1, 0]) (st' := (⟨92, [sI 0 k, sp 4 4, sp 7 7, e28_18, e28_19, e28_3 ret29v, sI 13 i, sB 84 (decide ((ret25v.2.getD ((l382.getD ((i).toNat) (0 : Int))).toNat (0 : Int)) = (1 : Int)))], [e28_0, e28_1 ret25v, e28_22 ret29v k out, e28_11, e28_10 l382, e28_20 l6202 row]⟩ : St)) (by kernel_rfl) (tsI 4 (⟨o1, tsI 1 ⟨o2, tsI 2 trivial⟩⟩)) ?_
      refine awd_done (by kernel_rfl) ?_
      refine thenQ_n ?_
      refine withJoin (σ := Int) (fun s => (⟨92, [sI 0 k, sp 4 4, sp 7 7, e28_18, e28_19, e28_3 ret29v, sI 13 i], [e28_0, e28_1 ret25v, hB 10 [.pI ret29v.2, .pI k, .own 74, .pI (0 : Int), .pW s], e28_11, e28_10 l382, e28_20 l6202 row]⟩ : St)) (fun s => VC28_k3 i l6202 X1 l382 row s) (fun out2 h => ?_) (fun rest2 => ?_)
      ·have h : VC28_k3 i l6202 X1 l382 row out2 := h
       unfold VC28_k3 at h
       refine blockQ_n ?_
       refine thenQ_n ?_
       refine aw_region ?_
       obtain ⟨o1, h⟩ := h
       refine rq 3 (ob := (Ts 1 (InR (i + (1 : Int)) ∧ Ts 1 True))) (st' := (⟨92, [sI 0 k, sp 4 4, sp 7 7, e28_18, e28_19, e28_3 ret29v, sI 13 (i + (1 : Int))], [e28_0, e28_1 ret25v, hB 10 [.pI ret29v.2, .pI k, .own 74, .pI (0 : Int), .pW out2], e28_11, e28_10 l382, e28_20 l6202 row]⟩ : St)) (by kernel_rfl) (tsI 1 ⟨o1, tsI 1 trivial⟩) ?_
       refine awl_conv [.ren 74 20074, .ren 20074 6202] (st' := (⟨92, [sI 0 k, sp 4 4, sp 7 7, e28_18, e28_19, e28_3 ret29v, sI 13 (i + (1 : Int))], [e28_0, e28_1 ret25v, hB 10 [.pI ret29v.2, .pI k, .own 6202, .pI (0 : Int), .pW out2], e28_11, e28_10 l382, hA 6202 26 (.sl tI) (l6202 ++ [row])]⟩ : St)) (by kernel_rfl) ?_
       refine awl_nil ?_
       exact thenQ_n ⟨((i + (1 : Int)), out2, l382, (l6202 ++ [row])), rfl, h⟩
      ·refine aw_cond (b := (decide ((ret25v.2.getD ((l382.getD ((i).toNat) (0 : Int))).toNat (0 : Int)) = (1 : Int)))) (by kernel_rfl) (fun hb => ?_) (fun hb => ?_)
       ·have h := h.1 hb
        refine awd_begin [10] (by kernel_rfl) ?_
        obtain ⟨o1, h⟩ := h
        refine drq (by kernel_rfl) [0, 2, 3] (ob := (Ts 2 (0 ≤ i ∧ True))) (done' := [3, 2, 0]) (st' := (⟨92, [sI 0 k, sp 4 4, sp 7 7, e28_18, e28_19, e28_3 ret29v, sI 13 i, s1 85 (.ptr 10 4), s1 88 (.pW (bShl .u32 (1 : Int) i))], [e28_0, e28_1 ret25v, e28_22 ret29v k out, e28_11, e28_10 l382, e28_20 l6202 row]⟩ : St)) (by kernel_rfl) (tsI 2 ⟨o1, trivial⟩) ?_
        refine awd_one (i := 1) (by kernel_rfl) ?_
        refine dsq (ob := True) (st' := (⟨92, [sI 0 k, sp 4 4, sp 7 7, e28_18, e28_19, e28_3 ret29v, sI 13 i, s1 86 (.pW out), s1 88 (.pW (bShl .u32 (1 : Int) i))], [e28_0, e28_1 ret25v, e28_22 ret29v k out, e28_11, e28_10 l382, e28_20 l6202 row]⟩ : St)) rfl (by kernel_rfl) trivial ?_
        refine drq (by kernel_rfl) [4, 5] (ob := (Ts 2 True)) (done' := [5, 4, 1, 3, 2, 0]) (st' := (⟨92, [sI 0 k, sp 4 4, sp 7 7, e28_18, e28_19, e28_3 ret29v, sI 13 i, s1 89 (.pW (bOr .u32 out (bShl .u32 (1 : Int) i))), s1 90 (.ptr 10 4)], [e28_0, e28_1 ret25v, e28_22 ret29v k out, e28_11, e28_10 l382, e28_20 l6202 row]⟩ : St)) (by kernel_rfl) (tsI 2 trivial) ?_
        refine awd_one (i := 6) (by kernel_rfl) ?_
        refine dsq (ob := True) (st' := (⟨92, [sI 0 k, sp 4 4, sp 7 7, e28_18, e28_19, e28_3 ret29v, sI 13 i], [e28_0, e28_1 ret25v, hB 10 [.pI ret29v.2, .pI k, .own 74, .pI (0 : Int), .pW (bOr .u32 out (bShl .u32 (1 : Int) i))], e28_11, e28_10 l382, e28_20 l6202 row]⟩ : St)) rfl (by kernel_rfl) trivial ?_
        refine awd_done (by kernel_rfl) ?_
        exact rest2 (bOr .u32 out (bShl .u32 (1 : Int) i)) h
       ·have h := h.2 hb
        refine cpr (st' := (⟨92, [sI 0 k, sp 4 4, sp 7 7, e28_18, e28_19, e28_3 ret29v, sI 13 i], [e28_0, e28_1 ret25v, e28_22 ret29v k out, e28_11, e28_10 l382, e28_20 l6202 row]⟩ : St)) (by kernel_rfl) ?_
        refine aw_skip ?_
        exact rest2 out h
     ·refine aw_block ?_
      refine aw_loop (σ := Int × LI × LI) (fun s => (⟨92, [sI 0 k, sp 4 4, sp 7 7, e28_18, e28_19, e28_3 ret29v, sI 13 i, e28_16, e28_8 k, sI 50 s.1], [e28_0, e28_1 ret25v, e28_2 ret29v k out, e28_11, hA 38 3 tI s.2.1, hA 47 3 tI s.2.2, e28_4 l6202]⟩ : St)) (fun s X => VC28_l2 k K ret25v ret29v i out l6202 X1 s.1 s.2.1 s.2.2 X) (s0 := ((0 : Int), l38, (List.replicate (k).toNat (0 : Int)))) (fun s X2 h => ?_) h
      obtain ⟨v50, l382, row⟩ := s
      have h : VC28_l2 k K ret25v ret29v i out l6202 X1 v50 l382 row X2 := h
      unfold VC28_l2 at h
      refine srn 1 ⟨92, [sI 0 k, sp 4 4, sp 7 7, e28_18, e28_19, e28_3 ret29v, sI 13 i, e28_16, e28_8 k, sI 50 v50, sB 51 (decide (v50 < ((List.replicate (k).toNat (0 : Int)).length : Int)))], [e28_0, e28_1 ret25v, e28_2 ret29v k out, e28_11, e28_10 l382, e28_9 row, e28_4 l6202]⟩ (by kernel_rfl) rfl ?_
      refine aw_seq ?_
      refine aw_cond (b := (decide (v50 < ((List.replicate (k).toNat (0 : Int)).length : Int)))) (by kernel_rfl) (fun hb => ?_) (fun hb => ?_)
      ·have h := h.1 hb
       refine aw_skip ?_
       refine thenQ_n ?_
       refine aw_seq ?_
       refine aw_block ?_
       refine srn 2 ⟨92, [sI 0 k, sp 4 4, sp 7 7, e28_18, e28_19, e28_3 ret29v, sI 13 i, e28_16, sI 15 v50, e28_8 k, sI 50 v50], [e28_0, e28_1 ret25v, e28_2 ret29v k out, e28_11, e28_10 l382, e28_9 row, e28_4 l6202]⟩ (by kernel_rfl) rfl ?_
       refine withJoin (σ := LI × LI) (fun s => (⟨92, [sI 0 k, sp 4 4, sp 7 7, e28_18, e28_19, e28_3 ret29v, sI 13 i, e28_16, e28_8 k, sI 50 v50], [e28_0, e28_1 ret25v, e28_2 ret29v k out, e28_23, hA 16 3 tI s.1, hA 47 3 tI s.2, e28_4 l6202]⟩ : St)) (fun s => VC28_k4 v50 X2 s.1 s.2) (fun s h => ?_) (fun rest4 => ?_)
       ·obtain ⟨l16, row2⟩ := s
        have h : VC28_k4 v50 X2 l16 row2 := h
        unfold VC28_k4 at h
        refine blockQ_n ?_
        refine thenQ_n ?_
        refine aw_region ?_
        obtain ⟨o1, h⟩ := h
        refine rq 2 (ob := (InR (v50 + (1 : Int)) ∧ Ts 1 True)) (st' := (⟨92, [sI 0 k, sp 4 4, sp 7 7, e28_18, e28_19, e28_3 ret29v, sI 13 i, e28_16, e28_8 k, sI 50 (v50 + (1 : Int))], [e28_0, e28_1 ret25v, e28_2 ret29v k out, e28_23, e28_31 l16, hA 47 3 tI row2, e28_4 l6202]⟩ : St)) (by kernel_rfl) (⟨o1, tsI 1 trivial⟩) ?_
        refine awl_conv [.ren 16 20016, .ren 20016 38] (st' := (⟨92, [sI 0 k, sp 4 4, sp 7 7, e28_18, e28_19, e28_3 ret29v, sI 13 i, e28_16, e28_8 k, sI 50 (v50 + (1 : Int))], [e28_0, e28_1 ret25v, e28_2 ret29v k out, e28_11, hA 38 3 tI l16, hA 47 3 tI row2, e28_4 l6202]⟩ : St)) (by kernel_rfl) ?_
        refine awl_nil ?_
        exact thenQ_n ⟨((v50 + (1 : Int)), l16, row2), rfl, h⟩
       ·refine awd_begin e28_n0 (by kernel_rfl) ?_
        refine drq (by kernel_rfl) [0, 1, 2, 3, 6, 11] (ob := (Ts 6 True)) (done' := [11, 6, 3, 2, 1, 0]) (st' := (⟨92, [sI 0 k, sp 4 4, sp 7 7, e28_18, e28_19, e28_3 ret29v, sI 13 i, e28_16, e28_8 k, sI 50 v50, e28_32, sI 54 v50, e28_12 ret29v, sp 56 7, sI 59 i, sI 64 v50], [e28_0, e28_1 ret25v, e28_2 ret29v k out, e28_11, e28_10 l382, e28_9 row, e28_4 l6202]⟩ : St)) (by kernel_rfl) (tsI 6 trivial) ?_
        refine awd_two (i := 4) (j := 5) (by kernel_rfl) ?_ ?_
        ·have h := h.1
         refine dsq (ob := True) (st' := (⟨92, [sI 0 k, sp 4 4, sp 7 7, e28_18, e28_19, e28_3 ret29v, sI 13 i, e28_16, e28_8 k, sI 50 v50, e28_32, sI 54 v50, e28_12 ret29v, e28_30 ret25v, sI 59 i, sI 64 v50], [e28_0, e28_1 ret25v, e28_2 ret29v k out, e28_11, e28_10 l382, e28_9 row, e28_4 l6202]⟩ : St)) rfl (by kernel_rfl) trivial ?_
         refine awd_one (i := 5) (by kernel_rfl) ?_
         refine dsq (ob := True) (st' := (⟨92, [sI 0 k, sp 4 4, sp 7 7, e28_18, e28_19, e28_3 ret29v, sI 13 i, e28_16, e28_8 k, sI 50 v50, e28_32, sI 54 v50, e28_12 ret29v, e28_30 ret25v, s1 58 (.own 38), sI 59 i, sI 64 v50], [e28_0, e28_1 ret25v, e28_2 ret29v k out, e28_11, e28_10 l382, e28_9 row, e28_4 l6202]⟩ : St)) rfl (by kernel_rfl) trivial ?_
         obtain ⟨o1, h⟩ := h
         refine drq (by kernel_rfl) [7] (ob := (inIdx i l382.length ∧ True)) (done' := [7, 5, 4, 11, 6, 3, 2, 1, 0]) (st' := (⟨92, [sI 0 k, sp 4 4, sp 7 7, e28_18, e28_19, e28_3 ret29v, sI 13 i, e28_16, e28_8 k, sI 50 v50, e28_32, sI 54 v50, e28_12 ret29v, e28_30 ret25v, s1 60 (.el 38 ((i).toNat) 1), sI 64 v50], [e28_0, e28_1 ret25v, e28_2 ret29v k out, e28_11, e28_10 l382, e28_9 row, e28_4 l6202]⟩ : St)) (by kernel_rfl) (⟨o1, trivial⟩) ?_
         refine awd_one (i := 8) (by kernel_rfl) ?_
         refine dsq (ob := True) (st' := (⟨92, [sI 0 k, sp 4 4, sp 7 7, e28_18, e28_19, e28_3 ret29v, sI 13 i, e28_16, e28_8 k, sI 50 v50, e28_32, sI 54 v50, e28_12 ret29v, e28_30 ret25v, e28_34 l382 i, sI 64 v50], [e28_0, e28_1 ret25v, e28_2 ret29v k out, e28_11, e28_10 l382, e28_9 row, e28_4 l6202]⟩ : St)) rfl (by kernel_rfl) trivial ?_
         obtain ⟨o1, o2, h⟩ := h
         refine drq (by kernel_rfl) [9, 10, 12, 13] (ob := (inIdx (l382.getD ((i).toNat) (0 : Int)) ret25v.1.length ∧ Ts 1 (inIdx v50 (ret25v.1.getD ((l382.getD ((i).toNat) (0 : Int))).toNat ([] : LI)).length ∧ Ts 1 True))) (done' := [13, 12, 10, 9, 8, 7, 5, 4, 11, 6, 3, 2, 1, 0]) (st' := (⟨92, [sI 0 k, sp 4 4, sp 7 7, e28_18, e28_19, e28_3 ret29v, sI 13 i, e28_16, e28_8 k, sI 50 v50, e28_32, sI 54 v50, e28_12 ret29v, e28_27 ret25v l382 i v50], [e28_0, e28_1 ret25v, e28_2 ret29v k out, e28_11, e28_10 l382, e28_9 row, e28_4 l6202]⟩ : St)) (by kernel_rfl) (⟨o1, tsI 1 ⟨o2, tsI 1 trivial⟩⟩) ?_
         refine awd_one (i := 14) (by kernel_rfl) ?_
         refine adop_inlr [.t 4] [.c (.pI ((ret25v.1.getD ((l382.getD ((i).toNat) (0 : Int))).toNat ([] : LI)).getD (v50).toNat (0 : Int)))] [.c (.ptr 11 0), .c (.ad (.sl tI) ret29v.1)] rfl rfl rfl (by kernel_rfl) rfl (by kernel_rfl) Try.call54 (by kernel_rfl) (by kernel_rfl) Try.func54 rfl rfl (by kernel_rfl) ?_
         refine aw_conv [] (st' := (⟨18, [e28_29 ret25v l382 i v50, sp 1 11, e28_17 ret29v, sI 18 k, sp 22 4, sp 25 7, e28_25, e28_26, e28_5 ret29v, sI 31 i, e28_14, e28_6 k, sI 68 v50, e28_15, sI 72 v50, e28_33 ret29v, e28_28 ret25v l382 i v50], [e28_0, e28_1 ret25v, e28_2 ret29v k out, e28_11, e28_10 l382, e28_9 row, e28_4 l6202]⟩ : St)) (by kernel_rfl) ?_
         refine sr ?_
         refine rqT 2 ⟨18, [sp 1 11, e28_17 ret29v, sp 3 3, sI 18 k, sp 22 4, sp 25 7, e28_25, e28_26, e28_5 ret29v, sI 31 i, e28_14, e28_6 k, sI 68 v50, e28_15, sI 72 v50], [e28_13 ret25v l382 i v50, e28_0, e28_1 ret25v, e28_2 ret29v k out, e28_11, e28_10 l382, e28_9 row, e28_4 l6202]⟩ (by kernel_rfl) ?_
         refine nsr ?_
         refine rqT 1 ⟨18, [sp 1 11, e28_17 ret29v, sp 3 3, e28_37, sI 18 k, sp 22 4, sp 25 7, e28_25, e28_26, e28_5 ret29v, sI 31 i, e28_14, e28_6 k, sI 68 v50, e28_15, sI 72 v50], [e28_13 ret25v l382 i v50, e28_0, e28_1 ret25v, e28_2 ret29v k out, e28_11, e28_10 l382, e28_9 row, e28_4 l6202]⟩ (by kernel_rfl) ?_
         refine awl_conv [.freezeB 3 tI] (st' := (⟨18, [sp 1 11, e28_17 ret29v, e28_7 ret25v l382 i v50, e28_37, sI 18 k, sp 22 4, sp 25 7, e28_25, e28_26, e28_5 ret29v, sI 31 i, e28_14, e28_6 k, sI 68 v50, e28_15, sI 72 v50], [e28_0, e28_1 ret25v, e28_2 ret29v k out, e28_11, e28_10 l382, e28_9 row, e28_4 l6202]⟩ : St)) (by kernel_rfl) ?_
         refine rqT 1 ⟨18, [sp 1 11, e28_7 ret25v l382 i v50, e28_37, s1 7 (.fn 56 [(⟨(.sl tI), ret29v.1⟩ : Dat), (⟨tI, ((ret25v.1.getD ((l382.getD ((i).toNat) (0 : Int))).toNat ([] : LI)).getD (v50).toNat (0 : Int))⟩ : Dat)]), sI 18 k, sp 22 4, sp 25 7, e28_25, e28_26, e28_5 ret29v, sI 31 i, e28_14, e28_6 k, sI 68 v50, e28_15, sI 72 v50], [e28_0, e28_1 ret25v, e28_2 ret29v k out, e28_11, e28_10 l382, e28_9 row, e28_4 l6202]⟩ (by kernel_rfl) ?_
         refine awl_callk (p := []) (l := [toV1 (.sl tI) l382, .c (.fn 56 [(⟨(.sl tI), ret29v.1⟩ : Dat), (⟨tI, ((ret25v.1.getD ((l382.getD ((i).toNat) (0 : Int))).toNat ([] : LI)).getD (v50).toNat (0 : Int))⟩ : Dat)])]) (cl := []) true [.d (.sl tI), .fn] e28_n1 e28_n0 (fun (ret8v : Int) => (((decide (ret8v < (0 : Int))) = true → (roomN (l382.length + [((ret25v.1.getD ((l382.getD ((i).toNat) (0 : Int))).toNat ([] : LI)).getD (v50).toNat (0 : Int))].length) ∧ VC28_k5 v50 row X2 (l382.length : Int) (l382 ++ [((ret25v.1.getD ((l382.getD ((i).toNat) (0 : Int))).toNat ([] : LI)).getD (v50).toNat (0 : Int))]))) ∧ ((decide (ret8v < (0 : Int))) = false → VC28_k5 v50 row X2 ret8v l382))) (fun ret8v => [toV1 tI ret8v]) (fun ret8v => (⟨18, [sp 1 11, e28_7 ret25v l382 i v50, sI 8 ret8v, sI 18 k, sp 22 4, sp 25 7, e28_25, e28_26, e28_5 ret29v, sI 31 i, e28_14, e28_6 k, sI 68 v50, e28_15, sI 72 v50], [e28_0, e28_1 ret25v, e28_2 ret29v k out, e28_11, e28_10 l382, e28_9 row, e28_4 l6202]⟩ : St)) (by kernel_rfl) rfl (by kernel_rfl) rfl (by kernel_rfl) Try.call55 (by kernel_rfl) (fun ret8v => by kernel_rfl) (fun _ _ => rfl) (fun hg => link55 l382 56 [(⟨(.sl tI), ret29v.1⟩ : Dat), (⟨tI, ((ret25v.1.getD ((l382.getD ((i).toNat) (0 : Int))).toNat ([] : LI)).getD (v50).toNat (0 : Int))⟩ : Dat)] (fun (x : Int) (K : Bool → Prop) => VC56 x ret29v.1 ((ret25v.1.getD ((l382.getD ((i).toNat) (0 : Int))).toNat ([] : LI)).getD (v50).toNat (0 : Int)) K) ⟨Try.call56, fun x K h => link56 x ret29v.1 ((ret25v.1.getD ((l382.getD ((i).toNat) (0 : Int))).toNat ([] : LI)).getD (v50).toNat (0 : Int)) K h⟩ _ h) (fun hg => noF hg) (fun ret8v h => ?_)
         refine rqT 1 ⟨18, [sp 1 11, e28_7 ret25v l382 i v50, sI 5 ret8v, sI 18 k, sp 22 4, sp 25 7, e28_25, e28_26, e28_5 ret29v, sI 31 i, e28_14, e28_6 k, sI 68 v50, e28_15, sI 72 v50], [e28_0, e28_1 ret25v, e28_2 ret29v k out, e28_11, e28_10 l382, e28_9 row, e28_4 l6202]⟩ (by kernel_rfl) ?_
         refine nn ?_
         refine aw_seq ?_
         refine srn 2 ⟨18, [sp 1 11, e28_7 ret25v l382 i v50, sI 5 ret8v, sB 10 (decide (ret8v < (0 : Int))), sI 18 k, sp 22 4, sp 25 7, e28_25, e28_26, e28_5 ret29v, sI 31 i, e28_14, e28_6 k, sI 68 v50, e28_15, sI 72 v50], [e28_0, e28_1 ret25v, e28_2 ret29v k out, e28_11, e28_10 l382, e28_9 row, e28_4 l6202]⟩ (by kernel_rfl) rfl ?_
         refine withJoin (σ := Int × LI) (fun s => (⟨18, [sI 5 s.1, sI 18 k, sp 22 4, sp 25 7, e28_25, e28_26, e28_5 ret29v, sI 31 i, e28_14, e28_6 k, sI 68 v50, e28_15, sI 72 v50], [e28_0, e28_1 ret25v, e28_2 ret29v k out, e28_23, hA 16 3 tI s.2, e28_9 row, e28_4 l6202]⟩ : St)) (fun s => VC28_k5 v50 row X2 s.1 s.2) (fun s h => ?_) (fun rest5 => ?_)
         ·obtain ⟨n, l16⟩ := s
          have h : VC28_k5 v50 row X2 n l16 := h
          unfold VC28_k5 at h
          refine thenQ_n ?_
          refine srn 2 ⟨18, [sI 4 n, sI 18 k, sp 22 4, sp 25 7, e28_25, e28_26, e28_5 ret29v, sI 31 i, e28_14, e28_6 k, sI 68 v50, e28_15, sI 72 v50], [e28_0, e28_1 ret25v, e28_2 ret29v k out, e28_23, e28_31 l16, e28_9 row, e28_4 l6202]⟩ (by kernel_rfl) rfl ?_
          refine aw_ret ?_
          refine inlR_r (ob := True) (.v (.c (.pI n))) (by kernel_rfl) trivial rfl ?_
          refine dpr (st' := (⟨92, [sI 0 k, sp 4 4, sp 7 7, e28_18, e28_19, e28_3 ret29v, sI 13 i, e28_16, e28_8 k, sI 50 v50, e28_32, sI 54 v50, sI 67 n], [e28_0, e28_1 ret25v, e28_2 ret29v k out, e28_23, e28_31 l16, e28_9 row, e28_4 l6202]⟩ : St)) (by kernel_rfl) ?_
          obtain ⟨o1, h⟩ := h
          refine drq (by kernel_rfl) [15] (ob := (inIdx v50 row.length ∧ True)) (done' := [15, 14, 13, 12, 10, 9, 8, 7, 5, 4, 11, 6, 3, 2, 1, 0]) (st' := (⟨92, [sI 0 k, sp 4 4, sp 7 7, e28_18, e28_19, e28_3 ret29v, sI 13 i, e28_16, e28_8 k, sI 50 v50, sI 67 n, s1 68 (.el 47 ((v50).toNat) 1)], [e28_0, e28_1 ret25v, e28_2 ret29v k out, e28_23, e28_31 l16, e28_9 row, e28_4 l6202]⟩ : St)) (by kernel_rfl) (⟨o1, trivial⟩) ?_
          refine awd_one (i := 16) (by kernel_rfl) ?_
          refine dsq (ob := True) (st' := (⟨92, [sI 0 k, sp 4 4, sp 7 7, e28_18, e28_19, e28_3 ret29v, sI 13 i, e28_16, e28_8 k, sI 50 v50], [e28_0, e28_1 ret25v, e28_2 ret29v k out, e28_23, e28_31 l16, hA 47 3 tI (row.set ((v50).toNat) n), e28_4 l6202]⟩ : St)) rfl (by kernel_rfl) trivial ?_
          refine awd_done (by kernel_rfl) ?_
          exact rest4 (l16, (row.set ((v50).toNat) n)) h
         ·refine aw_cond (b := (decide (ret8v < (0 : Int)))) (by kernel_rfl) (fun hb => ?_) (fun hb => ?_)
          ·have h := h.1 hb
           refine srn 3 ⟨18, [sp 1 11, e28_7 ret25v l382 i v50, e28_36 l382, sI 18 k, sp 22 4, sp 25 7, e28_25, e28_26, e28_5 ret29v, sI 31 i, e28_14, e28_6 k, sI 68 v50, e28_15, sI 72 v50], [e28_0, e28_1 ret25v, e28_2 ret29v k out, e28_11, e28_10 l382, e28_9 row, e28_4 l6202]⟩ (by kernel_rfl) rfl ?_
           refine aw_region ?_
           obtain ⟨o1, h⟩ := h
           refine rq 5 (ob := (Ts 3 (roomN (l382.length + [((ret25v.1.getD ((l382.getD ((i).toNat) (0 : Int))).toNat ([] : LI)).getD (v50).toNat (0 : Int))].length) ∧ Ts 1 True))) (st' := (⟨18, [e28_36 l382, sI 18 k, sp 22 4, sp 25 7, e28_25, e28_26, e28_5 ret29v, sI 31 i, e28_14, e28_6 k, sI 68 v50, e28_15, sI 72 v50], [e28_0, e28_1 ret25v, e28_2 ret29v k out, e28_23, e28_21 l382 ret25v i v50, e28_9 row, e28_4 l6202]⟩ : St)) (by kernel_rfl) (tsI 3 ⟨o1, tsI 1 trivial⟩) ?_
           refine awl_nil ?_
           exact rest5 ((l382.length : Int), (l382 ++ [((ret25v.1.getD ((l382.getD ((i).toNat) (0 : Int))).toNat ([] : LI)).getD (v50).toNat (0 : Int))])) h
          ·have h := h.2 hb
           refine aw_conv [.prune e28_n2 e28_n0, .ren 38 20038, .ren 20038 16] (st' := (⟨18, [sI 5 ret8v, sI 18 k, sp 22 4, sp 25 7, e28_25, e28_26, e28_5 ret29v, sI 31 i, e28_14, e28_6 k, sI 68 v50, e28_15, sI 72 v50], [e28_0, e28_1 ret25v, e28_2 ret29v k out, e28_23, hA 16 3 tI l382, e28_9 row, e28_4 l6202]⟩ : St)) (by kernel_rfl) ?_
           refine aw_skip ?_
           exact rest5 (ret8v, l382) h
        ·have h := h.2
         refine dsq (ob := True) (st' := (⟨92, [sI 0 k, sp 4 4, sp 7 7, e28_18, e28_19, e28_3 ret29v, sI 13 i, e28_16, e28_8 k, sI 50 v50, e28_32, sI 54 v50, e28_12 ret29v, sp 56 7, s1 58 (.own 38), sI 59 i, sI 64 v50], [e28_0, e28_1 ret25v, e28_2 ret29v k out, e28_11, e28_10 l382, e28_9 row, e28_4 l6202]⟩ : St)) rfl (by kernel_rfl) trivial ?_
         obtain ⟨o1, h⟩ := h
         refine drq (by kernel_rfl) [7] (ob := (inIdx i l382.length ∧ True)) (done' := [7, 5, 11, 6, 3, 2, 1, 0]) (st' := (⟨92, [sI 0 k, sp 4 4, sp 7 7, e28_18, e28_19, e28_3 ret29v, sI 13 i, e28_16, e28_8 k, sI 50 v50, e28_32, sI 54 v50, e28_12 ret29v, sp 56 7, s1 60 (.el 38 ((i).toNat) 1), sI 64 v50], [e28_0, e28_1 ret25v, e28_2 ret29v k out, e28_11, e28_10 l382, e28_9 row, e28_4 l6202]⟩ : St)) (by kernel_rfl) (⟨o1, trivial⟩) ?_
         refine awd_two (i := 4) (j := 8) (by kernel_rfl) ?_ ?_
         ·have h := h.1
          refine dsq (ob := True) (st' := (⟨92, [sI 0 k, sp 4 4, sp 7 7, e28_18, e28_19, e28_3 ret29v, sI 13 i, e28_16, e28_8 k, sI 50 v50, e28_32, sI 54 v50, e28_12 ret29v, e28_30 ret25v, s1 60 (.el 38 ((i).toNat) 1), sI 64 v50], [e28_0, e28_1 ret25v, e28_2 ret29v k out, e28_11, e28_10 l382, e28_9 row, e28_4 l6202]⟩ : St)) rfl (by kernel_rfl) trivial ?_
          refine awd_one (i := 8) (by kernel_rfl) ?_
          refine dsq (ob := True) (st' := (⟨92, [sI 0 k, sp 4 4, sp 7 7, e28_18, e28_19, e28_3 ret29v, sI 13 i, e28_16, e28_8 k, sI 50 v50, e28_32, sI 54 v50, e28_12 ret29v, e28_30 ret25v, e28_34 l382 i, sI 64 v50], [e28_0, e28_1 ret25v, e28_2 ret29v k out, e28_11, e28_10 l382, e28_9 row, e28_4 l6202]⟩ : St)) rfl (by kernel_rfl) trivial ?_
          obtain ⟨o1, o2, h⟩ := h
          refine drq (by kernel_rfl) [9, 10, 12, 13] (ob := (inIdx (l382.getD ((i).toNat) (0 : Int)) ret25v.1.length ∧ Ts 1 (inIdx v50 (ret25v.1.getD ((l382.getD ((i).toNat) (0 : Int))).toNat ([] : LI)).length ∧ Ts 1 True))) (done' := [13, 12, 10, 9, 8, 4, 7, 5, 11, 6, 3, 2, 1, 0]) (st' := (⟨92, [sI 0 k, sp 4 4, sp 7 7, e28_18, e28_19, e28_3 ret29v, sI 13 i, e28_16, e28_8 k, sI 50 v50, e28_32, sI 54 v50, e28_12 ret29v, e28_27 ret25v l382 i v50], [e28_0, e28_1 ret25v, e28_2 ret29v k out, e28_11, e28_10 l382, e28_9 row, e28_4 l6202]⟩ : St)) (by kernel_rfl) (⟨o1, tsI 1 ⟨o2, tsI 1 trivial⟩⟩) ?_
          refine awd_one (i := 14) (by kernel_rfl) ?_
          refine adop_inlr [.t 4] [.c (.pI ((ret25v.1.getD ((l382.getD ((i).toNat) (0 : Int))).toNat ([] : LI)).getD (v50).toNat (0 : Int)))] [.c (.ptr 11 0), .c (.ad (.sl tI) ret29v.1)] rfl rfl rfl (by kernel_rfl) rfl (by kernel_rfl) Try.call54 (by kernel_rfl) (by kernel_rfl) Try.func54 rfl rfl (by kernel_rfl) ?_
          refine aw_conv [] (st' := (⟨18, [e28_29 ret25v l382 i v50, sp 1 11, e28_17 ret29v, sI 18 k, sp 22 4, sp 25 7, e28_25, e28_26, e28_5 ret29v, sI 31 i, e28_14, e28_6 k, sI 68 v50, e28_15, sI 72 v50, e28_33 ret29v, e28_28 ret25v l382 i v50], [e28_0, e28_1 ret25v, e28_2 ret29v k out, e28_11, e28_10 l382, e28_9 row, e28_4 l6202]⟩ : St)) (by kernel_rfl) ?_
          refine sr ?_
          refine rqT 2 ⟨18, [sp 1 11, e28_17 ret29v, sp 3 3, sI 18 k, sp 22 4, sp 25 7, e28_25, e28_26, e28_5 ret29v, sI 31 i, e28_14, e28_6 k, sI 68 v50, e28_15, sI 72 v50], [e28_13 ret25v l382 i v50, e28_0, e28_1 ret25v, e28_2 ret29v k out, e28_11, e28_10 l382, e28_9 row, e28_4 l6202]⟩ (by kernel_rfl) ?_
          refine nsr ?_
          refine rqT 1 ⟨18, [sp 1 11, e28_17 ret29v, sp 3 3, e28_37, sI 18 k, sp 22 4, sp 25 7, e28_25, e28_26, e28_5 ret29v, sI 31 i, e28_14, e28_6 k, sI 68 v50, e28_15, sI 72 v50], [e28_13 ret25v l382 i v50, e28_0, e28_1 ret25v, e28_2 ret29v k out, e28_11, e28_10 l382, e28_9 row, e28_4 l6202]⟩ (by kernel_rfl) ?_
          refine awl_conv [.freezeB 3 tI] (st' := (⟨18, [sp 1 11, e28_17 ret29v, e28_7 ret25v l382 i v50, e28_37, sI 18 k, sp 22 4, sp 25 7, e28_25, e28_26, e28_5 ret29v, sI 31 i, e28_14, e28_6 k, sI 68 v50, e28_15, sI 72 v50], [e28_0, e28_1 ret25v, e28_2 ret29v k out, e28_11, e28_10 l382, e28_9 row, e28_4 l6202]⟩ : St)) (by kernel_rfl) ?_
          refine rqT 1 ⟨18, [sp 1 11, e28_7 ret25v l382 i v50, e28_37, s1 7 (.fn 56 [(⟨(.sl tI), ret29v.1⟩ : Dat), (⟨tI, ((ret25v.1.getD ((l382.getD ((i).toNat) (0 : Int))).toNat ([] : LI)).getD (v50).toNat (0 : Int))⟩ : Dat)]), sI 18 k, sp 22 4, sp 25 7, e28_25, e28_26, e28_5 ret29v, sI 31 i, e28_14, e28_6 k, sI 68 v50, e28_15, sI 72 v50], [e28_0, e28_1 ret25v, e28_2 ret29v k out, e28_11, e28_10 l382, e28_9 row, e28_4 l6202]⟩ (by kernel_rfl) ?_
          refine awl_callk (p := []) (l := [toV1 (.sl tI) l382, .c (.fn 56 [(⟨(.sl tI), ret29v.1⟩ : Dat), (⟨tI, ((ret25v.1.getD ((l382.getD ((i).toNat) (0 : Int))).toNat ([] : LI)).getD (v50).toNat (0 : Int))⟩ : Dat)])]) (cl := []) true [.d (.sl tI), .fn] e28_n1 e28_n0 (fun (ret8v : Int) => (((decide (ret8v < (0 : Int))) = true → (roomN (l382.length + [((ret25v.1.getD ((l382.getD ((i).toNat) (0 : Int))).toNat ([] : LI)).getD (v50).toNat (0 : Int))].length) ∧ VC28_k6 v50 row X2 (l382.length : Int) (l382 ++ [((ret25v.1.getD ((l382.getD ((i).toNat) (0 : Int))).toNat ([] : LI)).getD (v50).toNat (0 : Int))]))) ∧ ((decide (ret8v < (0 : Int))) = false → VC28_k6 v50 row X2 ret8v l382))) (fun ret8v => [toV1 tI ret8v]) (fun ret8v => (⟨18, [sp 1 11, e28_7 ret25v l382 i v50, sI 8 ret8v, sI 18 k, sp 22 4, sp 25 7, e28_25, e28_26, e28_5 ret29v, sI 31 i, e28_14, e28_6 k, sI 68 v50, e28_15, sI 72 v50], [e28_0, e28_1 ret25v, e28_2 ret29v k out, e28_11, e28_10 l382, e28_9 row, e28_4 l6202]⟩ : St)) (by kernel_rfl) rfl (by kernel_rfl) rfl (by kernel_rfl) Try.call55 (by kernel_rfl) (fun ret8v => by kernel_rfl) (fun _ _ => rfl) (fun hg => link55 l382 56 [(⟨(.sl tI), ret29v.1⟩ : Dat), (⟨tI, ((ret25v.1.getD ((l382.getD ((i).toNat) (0 : Int))).toNat ([] : LI)).getD (v50).toNat (0 : Int))⟩ : Dat)] (fun (x : Int) (K : Bool → Prop) => VC56 x ret29v.1 ((ret25v.1.getD ((l382.getD ((i).toNat) (0 : Int))).toNat ([] : LI)).getD (v50).toNat (0 : Int)) K) ⟨Try.call56, fun x K h => link56 x ret29v.1 ((ret25v.1.getD ((l382.getD ((i).toNat) (0 : Int))).toNat ([] : LI)).getD (v50).toNat (0 : Int)) K h⟩ _ h) (fun hg => noF hg) (fun ret8v h => ?_)
          refine rqT 1 ⟨18, [sp 1 11, e28_7 ret25v l382 i v50, sI 5 ret8v, sI 18 k, sp 22 4, sp 25 7, e28_25, e28_26, e28_5 ret29v, sI 31 i, e28_14, e28_6 k, sI 68 v50, e28_15, sI 72 v50], [e28_0, e28_1 ret25v, e28_2 ret29v k out, e28_11, e28_10 l382, e28_9 row, e28_4 l6202]⟩ (by kernel_rfl) ?_
          refine nn ?_
          refine aw_seq ?_
          refine srn 2 ⟨18, [sp 1 11, e28_7 ret25v l382 i v50, sI 5 ret8v, sB 10 (decide (ret8v < (0 : Int))), sI 18 k, sp 22 4, sp 25 7, e28_25, e28_26, e28_5 ret29v, sI 31 i, e28_14, e28_6 k, sI 68 v50, e28_15, sI 72 v50], [e28_0, e28_1 ret25v, e28_2 ret29v k out, e28_11, e28_10 l382, e28_9 row, e28_4 l6202]⟩ (by kernel_rfl) rfl ?_
          refine withJoin (σ := Int × LI) (fun s => (⟨18, [sI 5 s.1, sI 18 k, sp 22 4, sp 25 7, e28_25, e28_26, e28_5 ret29v, sI 31 i, e28_14, e28_6 k, sI 68 v50, e28_15, sI 72 v50], [e28_0, e28_1 ret25v, e28_2 ret29v k out, e28_23, hA 16 3 tI s.2, e28_9 row, e28_4 l6202]⟩ : St)) (fun s => VC28_k6 v50 row X2 s.1 s.2) (fun s h => ?_) (fun rest6 => ?_)
          ·obtain ⟨n, l16⟩ := s
           have h : VC28_k6 v50 row X2 n l16 := h
           unfold VC28_k6 at h
           refine thenQ_n ?_
           refine srn 2 ⟨18, [sI 4 n, sI 18 k, sp 22 4, sp 25 7, e28_25, e28_26, e28_5 ret29v, sI 31 i, e28_14, e28_6 k, sI 68 v50, e28_15, sI 72 v50], [e28_0, e28_1 ret25v, e28_2 ret29v k out, e28_23, e28_31 l16, e28_9 row, e28_4 l6202]⟩ (by kernel_rfl) rfl ?_
           refine aw_ret ?_
           refine inlR_r (ob := True) (.v (.c (.pI n))) (by kernel_rfl) trivial rfl ?_
           refine dpr (st' := (⟨92, [sI 0 k, sp 4 4, sp 7 7, e28_18, e28_19, e28_3 ret29v, sI 13 i, e28_16, e28_8 k, sI 50 v50, e28_32, sI 54 v50, sI 67 n], [e28_0, e28_1 ret25v, e28_2 ret29v k out, e28_23, e28_31 l16, e28_9 row, e28_4 l6202]⟩ : St)) (by kernel_rfl) ?_
           obtain ⟨o1, h⟩ := h
           refine drq (by kernel_rfl) [15] (ob := (inIdx v50 row.length ∧ True)) (done' := [15, 14, 13, 12, 10, 9, 8, 4, 7, 5, 11, 6, 3, 2, 1, 0]) (st' := (⟨92, [sI 0 k, sp 4 4, sp 7 7, e28_18, e28_19, e28_3 ret29v, sI 13 i, e28_16, e28_8 k, sI 50 v50, sI 67 n, s1 68 (.el 47 ((v50).toNat) 1)], [e28_0, e28_1 ret25v, e28_2 ret29v k out, e28_23, e28_31 l16, e28_9 row, e28_4 l6202]⟩ : St)) (by kernel_rfl) (⟨o1, trivial⟩) ?_
           refine awd_one (i := 16) (by kernel_rfl) ?_
           refine dsq (ob := True) (st' := (⟨92, [sI 0 k, sp 4 4, sp 7 7, e28_18, e28_19, e28_3 ret29v, sI 13 i, e28_16, e28_8 k, sI 50 v50], [e28_0, e28_1 ret25v, e28_2 ret29v k out, e28_23, e28_31 l16, hA 47 3 tI (row.set ((v50).toNat) n), e28_4 l6202]⟩ : St)) rfl (by kernel_rfl) trivial ?_
           refine awd_done (by kernel_rfl) ?_
           exact rest4 (l16, (row.set ((v50).toNat) n)) h
          ·refine aw_cond (b := (decide (ret8v < (0 : Int)))) (by kernel_rfl) (fun hb => ?_) (fun hb => ?_)
           ·have h := h.1 hb
            refine srn 3 ⟨18, [sp 1 11, e28_7 ret25v l382 i v50, e28_36 l382, sI 18 k, sp 22 4, sp 25 7, e28_25, e28_26, e28_5 ret29v, sI 31 i, e28_14, e28_6 k, sI 68 v50, e28_15, sI 72 v50], [e28_0, e28_1 ret25v, e28_2 ret29v k out, e28_11, e28_10 l382, e28_9 row, e28_4 l6202]⟩ (by kernel_rfl) rfl ?_
            refine aw_region ?_
            obtain ⟨o1, h⟩ := h
            refine rq 5 (ob := (Ts 3 (roomN (l382.length + [((ret25v.1.getD ((l382.getD ((i).toNat) (0 : Int))).toNat ([] : LI)).getD (v50).toNat (0 : Int))].length) ∧ Ts 1 True))) (st' := (⟨18, [e28_36 l382, sI 18 k, sp 22 4, sp 25 7, e28_25, e28_26, e28_5 ret29v, sI 31 i, e28_14, e28_6 k, sI 68 v50, e28_15, sI 72 v50], [e28_0, e28_1 ret25v, e28_2 ret29v k out, e28_23, e28_21 l382 ret25v i v50, e28_9 row, e28_4 l6202]⟩ : St)) (by kernel_rfl) (tsI 3 ⟨o1, tsI 1 trivial⟩) ?_
            refine awl_nil ?_
            exact rest6 ((l382.length : Int), (l382 ++ [((ret25v.1.getD ((l382.getD ((i).toNat) (0 : Int))).toNat ([] : LI)).getD (v50).toNat (0 : Int))])) h
           ·have h := h.2 hb
            refine aw_conv [.prune e28_n2 e28_n0, .ren 38 20038, .ren 20038 16] (st' := (⟨18, [sI 5 ret8v, sI 18 k, sp 22 4, sp 25 7, e28_25, e28_26, e28_5 ret29v, sI 31 i, e28_14, e28_6 k, sI 68 v50, e28_15, sI 72 v50], [e28_0, e28_1 ret25v, e28_2 ret29v k out, e28_23, hA 16 3 tI l382, e28_9 row, e28_4 l6202]⟩ : St)) (by kernel_rfl) ?_
            refine aw_skip ?_
            exact rest6 (ret8v, l382) h
         ·have h := h.2
          refine dsq (ob := True) (st' := (⟨92, [sI 0 k, sp 4 4, sp 7 7, e28_18, e28_19, e28_3 ret29v, sI 13 i, e28_16, e28_8 k, sI 50 v50, e28_32, sI 54 v50, e28_12 ret29v, sp 56 7, e28_34 l382 i, sI 64 v50], [e28_0, e28_1 ret25v, e28_2 ret29v k out, e28_11, e28_10 l382, e28_9 row, e28_4 l6202]⟩ : St)) rfl (by kernel_rfl) trivial ?_
          refine awd_one (i := 4) (by kernel_rfl) ?_
          refine dsq (ob := True) (st' := (⟨92, [sI 0 k, sp 4 4, sp 7 7, e28_18, e28_19, e28_3 ret29v, sI 13 i, e28_16, e28_8 k, sI 50 v50, e28_32, sI 54 v50, e28_12 ret29v, e28_30 ret25v, e28_34 l382 i, sI 64 v50], [e28_0, e28_1 ret25v, e28_2 ret29v k out, e28_11, e28_10 l382, e28_9 row, e28_4 l6202]⟩ : St)) rfl (by kernel_rfl) trivial ?_
          obtain ⟨o1, o2, h⟩ := h
          refine drq (by kernel_rfl) [9, 10, 12, 13] (ob := (inIdx (l382.getD ((i).toNat) (0 : Int)) ret25v.1.length ∧ Ts 1 (inIdx v50 (ret25v.1.getD ((l382.getD ((i).toNat) (0 : Int))).toNat ([] : LI)).length ∧ Ts 1 True))) (done' := [13, 12, 10, 9, 4, 8, 7, 5, 11, 6, 3, 2, 1, 0]) (st' := (⟨92, [sI 0 k, sp 4 4, sp 7 7, e28_18, e28_19, e28_3 ret29v, sI 13 i, e28_16, e28_8 k, sI 50 v50, e28_32, sI 54 v50, e28_12 ret29v, e28_27 ret25v l382 i v50], [e28_0, e28_1 ret25v, e28_2 ret29v k out, e28_11, e28_10 l382, e28_9 row, e28_4 l6202]⟩ : St)) (by kernel_rfl) (⟨o1, tsI 1 ⟨o2, tsI 1 trivial⟩⟩) ?_
          refine awd_one (i := 14) (by kernel_rfl) ?_
          refine adop_inlr [.t 4] [.c (.pI ((ret25v.1.getD ((l382.getD ((i).toNat) (0 : Int))).toNat ([] : LI)).getD (v50).toNat (0 : Int)))] [.c (.ptr 11 0), .c (.ad (.sl tI) ret29v.1)] rfl rfl rfl (by kernel_rfl) rfl (by kernel_rfl) Try.call54 (by kernel_rfl) (by kernel_rfl) Try.func54 rfl rfl (by kernel_rfl) ?_
          refine aw_conv [] (st' := (⟨18, [e28_29 ret25v l382 i v50, sp 1 11, e28_17 ret29v, sI 18 k, sp 22 4, sp 25 7, e28_25, e28_26, e28_5 ret29v, sI 31 i, e28_14, e28_6 k, sI 68 v50, e28_15, sI 72 v50, e28_33 ret29v, e28_28 ret25v l382 i v50], [e28_0, e28_1 ret25v, e28_2 ret29v k out, e28_11, e28_10 l382, e28_9 row, e28_4 l6202]⟩ : St)) (by kernel_rfl) ?_
          refine sr ?_
          refine rqT 2 ⟨18, [sp 1 11, e28_17 ret29v, sp 3 3, sI 18 k, sp 22 4, sp 25 7, e28_25, e28_26, e28_5 ret29v, sI 31 i, e28_14, e28_6 k, sI 68 v50, e28_15, sI 72 v50], [e28_13 ret25v l382 i v50, e28_0, e28_1 ret25v, e28_2 ret29v k out, e28_11, e28_10 l382, e28_9 row, e28_4 l6202]⟩ (by kernel_rfl) ?_
          refine nsr ?_
          refine rqT 1 ⟨18, [sp 1 11, e28_17 ret29v, sp 3 3, e28_37, sI 18 k, sp 22 4, sp 25 7, e28_25, e28_26, e28_5 ret29v, sI 31 i, e28_14, e28_6 k, sI 68 v50, e28_15, sI 72 v50], [e28_13 ret25v l382 i v50, e28_0, e28_1 ret25v, e28_2 ret29v k out, e28_11, e28_10 l382, e28_9 row, e28_4 l6202]⟩ (by kernel_rfl) ?_
          refine awl_conv [.freezeB 3 tI] (st' := (⟨18, [sp 1 11, e28_17 ret29v, e28_7 ret25v l382 i v50, e28_37, sI 18 k, sp 22 4, sp 25 7, e28_25, e28_26, e28_5 ret29v, sI 31 i, e28_14, e28_6 k, sI 68 v50, e28_15, sI 72 v50], [e28_0, e28_1 ret25v, e28_2 ret29v k out, e28_11, e28_10 l382, e28_9 row, e28_4 l6202]⟩ : St)) (by kernel_rfl) ?_
          refine rqT 1 ⟨18, [sp 1 11, e28_7 ret25v l382 i v50, e28_37, s1 7 (.fn 56 [(⟨(.sl tI), ret29v.1⟩ : Dat), (⟨tI, ((ret25v.1.getD ((l382.getD ((i).toNat) (0 : Int))).toNat ([] : LI)).getD (v50).toNat (0 : Int))⟩ : Dat)]), sI 18 k, sp 22 4, sp 25 7, e28_25, e28_26, e28_5 ret29v, sI 31 i, e28_14, e28_6 k, sI 68 v50, e28_15, sI 72 v50], [e28_0, e28_1 ret25v, e28_2 ret29v k out, e28_11, e28_10 l382, e28_9 row, e28_4 l6202]⟩ (by kernel_rfl) ?_
          refine awl_callk (p := []) (l := [toV1 (.sl tI) l382, .c (.fn 56 [(⟨(.sl tI), ret29v.1⟩ : Dat), (⟨tI, ((ret25v.1.getD ((l382.getD ((i).toNat) (0 : Int))).toNat ([] : LI)).getD (v50).toNat (0 : Int))⟩ : Dat)])]) (cl := []) true [.d (.sl tI), .fn] e28_n1 e28_n0 (fun (ret8v : Int) => (((decide (ret8v < (0 : Int))) = true → (roomN (l382.length + [((ret25v.1.getD ((l382.getD ((i).toNat) (0 : Int))).toNat ([] : LI)).getD (v50).toNat (0 : Int))].length) ∧ VC28_k7 v50 row X2 (l382.length : Int) (l382 ++ [((ret25v.1.getD ((l382.getD ((i).toNat) (0 : Int))).toNat ([] : LI)).getD (v50).toNat (0 : Int))]))) ∧ ((decide (ret8v < (0 : Int))) = false → VC28_k7 v50 row X2 ret8v l382))) (fun ret8v => [toV1 tI ret8v]) (fun ret8v => (⟨18, [sp 1 11, e28_7 ret25v l382 i v50, sI 8 ret8v, sI 18 k, sp 22 4, sp 25 7, e28_25, e28_26, e28_5 ret29v, sI 31 i, e28_14, e28_6 k, sI 68 v50, e28_15, sI 72 v50], [e28_0, e28_1 ret25v, e28_2 ret29v k out, e28_11, e28_10 l382, e28_9 row, e28_4 l6202]⟩ : St)) (by kernel_rfl) rfl (by kernel_rfl) rfl (by kernel_rfl) Try.call55 (by kernel_rfl) (fun ret8v => by kernel_rfl) (fun _ _ => rfl) (fun hg => link55 l382 56 [(⟨(.sl tI), ret29v.1⟩ : Dat), (⟨tI, ((ret25v.1.getD ((l382.getD ((i).toNat) (0 : Int))).toNat ([] : LI)).getD (v50).toNat (0 : Int))⟩ : Dat)] (fun (x : Int) (K : Bool → Prop) => VC56 x ret29v.1 ((ret25v.1.getD ((l382.getD ((i).toNat) (0 : Int))).toNat ([] : LI)).getD (v50).toNat (0 : Int)) K) ⟨Try.call56, fun x K h => link56 x ret29v.1 ((ret25v.1.getD ((l382.getD ((i).toNat) (0 : Int))).toNat ([] : LI)).getD (v50).toNat (0 : Int)) K h⟩ _ h) (fun hg => noF hg) (fun ret8v h => ?_)
          refine rqT 1 ⟨18, [sp 1 11, e28_7 ret25v l382 i v50, sI 5 ret8v, sI 18 k, sp 22 4, sp 25 7, e28_25, e28_26, e28_5 ret29v, sI 31 i, e28_14, e28_6 k, sI 68 v50, e28_15, sI 72 v50], [e28_0, e28_1 ret25v, e28_2 ret29v k out, e28_11, e28_10 l382, e28_9 row, e28_4 l6202]⟩ (by kernel_rfl) ?_
          refine nn ?_
          refine aw_seq ?_
          refine srn 2 ⟨18, [sp 1 11, e28_7 ret25v l382 i v50, sI 5 ret8v, sB 10 (decide (ret8v < (0 : Int))), sI 18 k, sp 22 4, sp 25 7, e28_25, e28_26, e28_5 ret29v, sI 31 i, e28_14, e28_6 k, sI 68 v50, e28_15, sI 72 v50], [e28_0, e28_1 ret25v, e28_2 ret29v k out, e28_11, e28_10 l382, e28_9 row, e28_4 l6202]⟩ (by kernel_rfl) rfl ?_
          refine withJoin (σ := Int × LI) (fun s => (⟨18, [sI 5 s.1, sI 18 k, sp 22 4, sp 25 7, e28_25, e28_26, e28_5 ret29v, sI 31 i, e28_14, e28_6 k, sI 68 v50, e28_15, sI 72 v50], [e28_0, e28_1 ret25v, e28_2 ret29v k out, e28_23, hA 16 3 tI s.2, e28_9 row, e28_4 l6202]⟩ : St)) (fun s => VC28_k7 v50 row X2 s.1 s.2) (fun s h => ?_) (fun rest7 => ?_)
          ·obtain ⟨n, l16⟩ := s
           have h : VC28_k7 v50 row X2 n l16 := h
           unfold VC28_k7 at h
           refine thenQ_n ?_
           refine srn 2 ⟨18, [sI 4 n, sI 18 k, sp 22 4, sp 25 7, e28_25, e28_26, e28_5 ret29v, sI 31 i, e28_14, e28_6 k, sI 68 v50, e28_15, sI 72 v50], [e28_0, e28_1 ret25v, e28_2 ret29v k out, e28_23, e28_31 l16, e28_9 row, e28_4 l6202]⟩ (by kernel_rfl) rfl ?_
           refine aw_ret ?_
           refine inlR_r (ob := True) (.v (.c (.pI n))) (by kernel_rfl) trivial rfl ?_
           refine dpr (st' := (⟨92, [sI 0 k, sp 4 4, sp 7 7, e28_18, e28_19, e28_3 ret29v, sI 13 i, e28_16, e28_8 k, sI 50 v50, e28_32, sI 54 v50, sI 67 n], [e28_0, e28_1 ret25v, e28_2 ret29v k out, e28_23, e28_31 l16, e28_9 row, e28_4 l6202]⟩ : St)) (by kernel_rfl) ?_
           obtain ⟨o1, h⟩ := h
           refine drq (by kernel_rfl) [15] (ob := (inIdx v50 row.length ∧ True)) (done' := [15, 14, 13, 12, 10, 9, 4, 8, 7, 5, 11, 6, 3, 2, 1, 0]) (st' := (⟨92, [sI 0 k, sp 4 4, sp 7 7, e28_18, e28_19, e28_3 ret29v, sI 13 i, e28_16, e28_8 k, sI 50 v50, sI 67 n, s1 68 (.el 47 ((v50).toNat) 1)], [e28_0, e28_1 ret25v, e28_2 ret29v k out, e28_23, e28_31 l16, e28_9 row, e28_4 l6202]⟩ : St)) (by kernel_rfl) (⟨o1, trivial⟩) ?_
           refine awd_one (i := 16) (by kernel_rfl) ?_
           refine dsq (ob := True) (st' := (⟨92, [sI 0 k, sp 4 4, sp 7 7, e28_18, e28_19, e28_3 ret29v, sI 13 i, e28_16, e28_8 k, sI 50 v50], [e28_0, e28_1 ret25v, e28_2 ret29v k out, e28_23, e28_31 l16, hA 47 3 tI (row.set ((v50).toNat) n), e28_4 l6202]⟩ : St)) rfl (by kernel_rfl) trivial ?_
           refine awd_done (by kernel_rfl) ?_
           exact rest4 (l16, (row.set ((v50).toNat) n)) h
          ·refine aw_cond (b := (decide (ret8v < (0 : Int)))) (by kernel_rfl) (fun hb => ?_) (fun hb => ?_)
           ·have h := h.1 hb
            refine srn 3 ⟨18, [sp 1 11, e28_7 ret25v l382 i v50, e28_36 l382, sI 18 k, sp 22 4, sp 25 7, e28_25, e28_26, e28_5 ret29v, sI 31 i, e28_14, e28_6 k, sI 68 v50, e28_15, sI 72 v50], [e28_0, e28_1 ret25v, e28_2 ret29v k out, e28_11, e28_10 l382, e28_9 row, e28_4 l6202]⟩ (by kernel_rfl) rfl ?_
            refine aw_region ?_
            obtain ⟨o1, h⟩ := h
            refine rq 5 (ob := (Ts 3 (roomN (l382.length + [((ret25v.1.getD ((l382.getD ((i).toNat) (0 : Int))).toNat ([] : LI)).getD (v50).toNat (0 : Int))].length) ∧ Ts 1 True))) (st' := (⟨18, [e28_36 l382, sI 18 k, sp 22 4, sp 25 7, e28_25, e28_26, e28_5 ret29v, sI 31 i, e28_14, e28_6 k, sI 68 v50, e28_15, sI 72 v50], [e28_0, e28_1 ret25v, e28_2 ret29v k out, e28_23, e28_21 l382 ret25v i v50, e28_9 row, e28_4 l6202]⟩ : St)) (by kernel_rfl) (tsI 3 ⟨o1, tsI 1 trivial⟩) ?_
            refine awl_nil ?_
            exact rest7 ((l382.length : Int), (l382 ++ [((ret25v.1.getD ((l382.getD ((i).toNat) (0 : Int))).toNat ([] : LI)).getD (v50).toNat (0 : Int))])) h
           ·have h := h.2 hb
            refine aw_conv [.prune e28_n2 e28_n0, .ren 38 20038, .ren 20038 16] (st' := (⟨18, [sI 5 ret8v, sI 18 k, sp 22 4, sp 25 7, e28_25, e28_26, e28_5 ret29v, sI 31 i, e28_14, e28_6 k, sI 68 v50, e28_15, sI 72 v50], [e28_0, e28_1 ret25v, e28_2 ret29v k out, e28_23, hA 16 3 tI l382, e28_9 row, e28_4 l6202]⟩ : St)) (by kernel_rfl) ?_
            refine aw_skip ?_
            exact rest7 (ret8v, l382) h
      ·have h := h.2 hb
       refine cpr (st' := (⟨92, [sI 0 k, sp 4 4, sp 7 7, e28_18, e28_19, e28_3 ret29v, sI 13 i, e28_16], [e28_0, e28_1 ret25v, e28_2 ret29v k out, e28_11, e28_10 l382, e28_9 row, e28_4 l6202]⟩ : St)) (by kernel_rfl) ?_
       refine aw_exit ?_
       refine thenQ_x ?_
       refine thenQ_x ?_
       refine blockQ_hit ?_
       exact rest3 (l382, row) h
    ·have h := h.2 hb
     refine cpr (st' := (⟨92, [sp 4 4, e28_18], [e28_0, e28_2 ret29v k out, e28_4 l6202]⟩ : St)) (by kernel_rfl) ?_
     refine aw_exit ?_
     refine thenQ_x ?_
     refine thenQ_x ?_
     refine blockQ_hit ?_
     exact rest1 (out, l6202) h
-- coppicer/machine.within
def VC82 (n : Int) (low : Int) (high : Int) (K : Bool → Prop) : Prop :=
  K ((decide (low ≤ n)) && (decide (n ≤ high)))
set_option maxHeartbeats 4000000 in
theorem link82 (n : Int) (low : Int) (high : Int) (K : Bool → Prop) (h : VC82 n low high K) : ACalls Try.prog 82 [toV1 tI n, toV1 tI low, toV1 tI high] (fun res => ∃ y, res = (fun y => [toV1 .bool y]) y ∧ K y) := by
 refine acalls_of_aw [.bool] [.t 6] Try.func82 rfl rfl rfl ?_
 unfold VC82 at h
 refine sr ?_
 refine rqT 1 ⟨15, [sI 0 n, sI 1 low, sI 2 high], []⟩ (by kernel_rfl) ?_
 refine nsr ?_
 refine rq 9 (ob := (Ts 4 (Ti 3 ((decide (low ≤ n)) = true → True) (Ts 2 True)))) (st' := (⟨15, [sB 6 ((decide (low ≤ n)) && (decide (n ≤ high)))], []⟩ : St)) (by kernel_rfl) (tsI 4 (tiI 3 (fun _ => trivial) (tsI 2 trivial))) ?_
 refine nn ?_
 refine aw_ret ?_
 exact retQ_r (ob := Ts 1 True) _ (by kernel_rfl) (tsI 1 trivial) h
-- coppicer/machine.Word$1
def VC81 (sv : Int) (a1 : Int) (K : Bool → Prop) : Prop :=
  (InR (a1 - (1 : Int)) ∧ VC82 sv (0 : Int) (a1 - (1 : Int)) (fun (ret7v : Bool) => K (!ret7v)))
set_option maxHeartbeats 4000000 in
theorem link81 (sv : Int) (a1 : Int) (K : Bool → Prop) (h : VC81 sv a1 K) : ACalls Try.prog 81 [toV1 tI sv, .c (.ad tI a1)] (fun res => ∃ y, res = (fun y => [toV1 .bool y]) y ∧ K y) := by
 refine acalls_of_aw [.bool] [.t 3] Try.func81 rfl rfl rfl ?_
 unfold VC81 at h
 refine sr ?_
 refine rqT 1 ⟨9, [sI 0 sv, s1 1 (.ad tI a1)], []⟩ (by kernel_rfl) ?_
 refine nsr ?_
 obtain ⟨o1, h⟩ := h
 refine rq 3 (ob := (Ts 2 (InR (a1 - (1 : Int)) ∧ True))) (st' := (⟨9, [sI 4 sv, sI 6 (a1 - (1 : Int))], []⟩ : St)) (by kernel_rfl) (tsI 2 ⟨o1, trivial⟩) ?_
 refine lcq (d := 7) [.d tI, .d tI, .d tI] (fun ret7v => (⟨9, [sB 7 ret7v], []⟩ : St)) (by kernel_rfl) Try.call82 (fun _ => by kernel_rfl) (link82 sv (0 : Int) (a1 - (1 : Int)) _ h) (fun ret7v h => ?_)
 refine rqT 2 ⟨9, [sB 3 (!ret7v)], []⟩ (by kernel_rfl) ?_
 refine nn ?_
 refine aw_ret ?_
 exact retQ_r (ob := Ts 1 True) _ (by kernel_rfl) (tsI 1 trivial) h
-- slices.ContainsFunc[[]int,int]
def VC79 (sv : LI) (F1 : Int → (Bool → Prop) → Prop) (K : Bool → Prop) : Prop :=
  VC55 sv F1 (fun (ret7v : Int) => K (decide ((0 : Int) ≤ ret7v)))
set_option maxHeartbeats 4000000 in
theorem link79 (sv : LI) (fv1 : FuncId) (cv1 : List Dat) (F1 : Int → (Bool → Prop) → Prop) (hF1 : FnIs Try.prog fv1 cv1 (fun (x : Int) => [toV1 tI x]) (fun (y : Bool) => [toV1 .bool y]) F1) (K : Bool → Prop) (h : VC79 sv F1 K) : ACalls Try.prog 79 [toV1 (.sl tI) sv, .c (.fn fv1 cv1)] (fun res => ∃ y, res = (fun y => [toV1 .bool y]) y ∧ K y) := by
 refine acalls_of_aw [.bool] [.t 4] Try.func79 rfl rfl rfl ?_
 unfold VC79 at h
 refine sr ?_
 refine rqT 1 ⟨9, [s1 0 (.pS sv), s1 1 (.fn fv1 cv1)], []⟩ (by kernel_rfl) ?_
 refine nsr ?_
 refine rqT 2 ⟨9, [s1 5 (.pS sv), s1 6 (.fn fv1 cv1)], []⟩ (by kernel_rfl) ?_
 refine lcq (d := 7) [.d (.sl tI), .fn] (fun ret7v => (⟨9, [sI 7 ret7v], []⟩ : St)) (by kernel_rfl) Try.call55 (fun _ => by kernel_rfl) (link55 sv fv1 cv1 F1 hF1 _ h) (fun ret7v h => ?_)
 refine rqT 2 ⟨9, [sB 4 (decide ((0 : Int) ≤ ret7v))], []⟩ (by kernel_rfl) ?_
 refine nn ?_
 refine aw_ret ?_
 exact retQ_r (ob := Ts 1 True) _ (by kernel_rfl) (tsI 1 trivial) h
-- coppicer/machine.Word
def VC40 (k : Int) (w : LI) (K : Int → Prop) : Prop :=
  (((decide ((12 : Int) < (w.length : Int))) = true → K (1 : Int)) ∧ ((decide ((12 : Int) < (w.length : Int))) = false → VC79 w (fun (x : Int) (K : Bool → Prop) => VC81 x k K) (fun (ret10v : Bool) => ((ret10v = true → K (2 : Int)) ∧ (ret10v = false → K (0 : Int))))))
set_option maxHeartbeats 4000000 in
theorem link40 (k : Int) (w : LI) (K : Int → Prop) (h : VC40 k w K) : ACalls Try.prog 40 [toV1 tI k, toV1 (.sl tI) w] (fun res => ∃ y, res = (fun y => [toV1 tI y]) y ∧ K y) := by
 refine acalls_of_aw [tI] [.t 4] Try.func40 rfl rfl rfl ?_
 unfold VC40 at h
 refine srn 2 ⟨11, [s1 1 (.pS w), sp 2 2], [hB 2 [.pI k]]⟩ (by kernel_rfl) rfl ?_
 refine aw_seq ?_
 refine srn 3 ⟨11, [s1 1 (.pS w), sp 2 2, sB 7 (decide ((12 : Int) < (w.length : Int)))], [hB 2 [.pI k]]⟩ (by kernel_rfl) rfl ?_
 refine aw_cond (b := (decide ((12 : Int) < (w.length : Int)))) (by kernel_rfl) (fun hb => ?_) (fun hb => ?_)
 ·have h := h.1 hb
  refine srn 1 ⟨11, [sI 4 (1 : Int)], []⟩ (by kernel_rfl) rfl ?_
  refine aw_ret ?_
  refine thenQ_r ?_
  exact retQ_r (ob := Ts 1 True) _ (by kernel_rfl) (tsI 1 trivial) h
 ·have h := h.2 hb
  refine aw_skip ?_
  refine thenQ_n ?_
  refine aw_seq ?_
  refine sr ?_
  refine rqT 1 ⟨11, [sp 2 2, s1 8 (.pS w)], [hB 2 [.pI k]]⟩ (by kernel_rfl) ?_
  refine awl_conv [.freezeB 2 tI] (st' := (⟨11, [s1 2 (.ad tI k), s1 8 (.pS w)], []⟩ : St)) (by kernel_rfl) ?_
  refine rqT 1 ⟨11, [s1 8 (.pS w), s1 9 (.fn 81 [(⟨tI, k⟩ : Dat)])], []⟩ (by kernel_rfl) ?_
  refine lcq (d := 10) [.d (.sl tI), .fn] (fun ret10v => (⟨11, [sB 10 ret10v], []⟩ : St)) (by kernel_rfl) Try.call79 (fun _ => by kernel_rfl) (link79 w 81 [(⟨tI, k⟩ : Dat)] (fun (x : Int) (K : Bool → Prop) => VC81 x k K) ⟨Try.call81, fun x K h => link81 x k K h⟩ _ h) (fun ret10v h => ?_)
  refine nn ?_
  refine aw_cond (b := ret10v) (by kernel_rfl) (fun hb => ?_) (fun hb => ?_)
  ·have h := h.1 hb
   refine srn 1 ⟨11, [sI 4 (2 : Int)], []⟩ (by kernel_rfl) rfl ?_
   refine aw_ret ?_
   refine thenQ_r ?_
   exact retQ_r (ob := Ts 1 True) _ (by kernel_rfl) (tsI 1 trivial) h
  ·have h := h.2 hb
   refine aw_skip ?_
   refine thenQ_n ?_
   refine srn 1 ⟨11, [sI 4 (0 : Int)], []⟩ (by kernel_rfl) rfl ?_
   refine aw_ret ?_
   exact retQ_r (ob := Ts 1 True) _ (by kernel_rfl) (tsI 1 trivial) h
-- coppicer/machine.Has
def VC44 (setv : Int) (n : Int) (K : Bool → Prop) : Prop :=
  ((0 ≤ setv ∧ 0 ≤ n) ∧ K (decide ((bAnd .u32 (bShr .u32 setv n) (1 : Int)) = (1 : Int))))
set_option maxHeartbeats 4000000 in
theorem link44 (setv : Int) (n : Int) (K : Bool → Prop) (h : VC44 setv n K) : ACalls Try.prog 44 [toV1 (.int .u32) setv, toV1 tI n] (fun res => ∃ y, res = (fun y => [toV1 .bool y]) y ∧ K y) := by
 refine acalls_of_aw [.bool] [.t 4] Try.func44 rfl rfl rfl ?_
 unfold VC44 at h
 refine sr ?_
 refine rqT 1 ⟨10, [s1 0 (.pW setv), sI 1 n], []⟩ (by kernel_rfl) ?_
 refine nsr ?_
 obtain ⟨o1, h⟩ := h
 refine rq 6 (ob := (Ts 2 ((0 ≤ setv ∧ 0 ≤ n) ∧ Ts 3 True))) (st' := (⟨10, [sB 4 (decide ((bAnd .u32 (bShr .u32 setv n) (1 : Int)) = (1 : Int)))], []⟩ : St)) (by kernel_rfl) (tsI 2 ⟨o1, tsI 3 trivial⟩) ?_
 refine nn ?_
 refine aw_ret ?_
 exact retQ_r (ob := Ts 1 True) _ (by kernel_rfl) (tsI 1 trivial) h
abbrev e86_0 (a : LI) : Nat × Path × AV := s1 0 (.p (.sl (.int .u32)) a)
abbrev e86_1 (b : LI) : Nat × Path × AV := s1 1 (.p (.sl (.int .u32)) b)
abbrev e86_2 (a2 : Int) : Nat × Path × AV := s1 2 (.ad tI a2)
abbrev e86_3 : Nat × Path × AV := s1 6 (.own 10)
abbrev e86_4 (out2 : LI) : Nat × Path × Con := hA 10 39 (.int .u32) out2
abbrev e86_5 (out : LI) : Nat × Path × Con := hA 10 39 (.int .u32) out
-- coppicer/sentence.match$1
def VC86_k1 (K : LI → Prop) (out : LI) : Prop :=
  K out
def VC86_k2 (v12 : Int) (X1 : Int × LI → Prop) (out2 : LI) : Prop :=
  (InR (v12 + (1 : Int)) ∧ X1 ((v12 + (1 : Int)), out2))
def VC86_k3 (v16 : Int) (X2 : Int × LI → Prop) (out3 : LI) : Prop :=
  (InR (v16 + (1 : Int)) ∧ X2 ((v16 + (1 : Int)), out3))
def VC86_l2 (a : LI) (b : LI) (a2 : Int) (v12 : Int) (X1 : Int × LI → Prop) (v16 : Int) (out2 : LI) (X2 : Int × LI → Prop) : Prop :=
  (((decide (v16 < a2)) = true → (inIdx v12 a.length ∧ VC44 (a.getD (v12).toNat (0 : Int)) v16 (fun (ret24v : Bool) => ((ret24v = true → (inIdx v12 out2.length ∧ inIdx v16 b.length ∧ (inIdx v12 out2.length ∧ VC86_k3 v16 X2 (out2.set ((v12).toNat) (bOr .u32 (out2.getD ((v12).toNat) (0 : Int)) (b.getD (v16).toNat (0 : Int))))))) ∧ (ret24v = false → VC86_k3 v16 X2 out2))))) ∧ ((decide (v16 < a2)) = false → VC86_k2 v12 X1 out2))
def VC86_l1 (a : LI) (b : LI) (a2 : Int) (K : LI → Prop) (v12 : Int) (out : LI) (X1 : Int × LI → Prop) : Prop :=
  (((decide (v12 < a2)) = true → Loop (σ := Int × LI) (fun s X => VC86_l2 a b a2 v12 X1 s.1 s.2 X) ((0 : Int), out)) ∧ ((decide (v12 < a2)) = false → VC86_k1 K out))
def VC86 (a : LI) (b : LI) (a2 : Int) (K : LI → Prop) : Prop :=
  (room a2 ∧ Loop (σ := Int × LI) (fun s X => VC86_l1 a b a2 K s.1 s.2 X) ((0 : Int), (List.replicate (a2).toNat (0 : Int))))
set_option maxHeartbeats 4000000 in
theorem link86 (a : LI) (b : LI) (a2 : Int) (K : LI → Prop) (h : VC86 a b a2 K) : ACallsO Try.prog 86 [toV1 (.sl (.int .u32)) a, toV1 (.sl (.int .u32)) b, .c (.ad tI a2)] 39 (.int .u32) K := by
 refine acallsO_of_aw 5 Try.func86 rfl rfl rfl ?_
 unfold VC86 at h
 refine sr ?_
 refine rqT 1 ⟨38, [e86_0 a, e86_1 b, e86_2 a2], []⟩ (by kernel_rfl) ?_
 refine nsr ?_
 obtain ⟨o1, h⟩ := h
 refine rq 3 (ob := (Ts 1 (room a2 ∧ Ts 1 True))) (st' := (⟨38, [e86_0 a, e86_1 b, e86_2 a2, e86_3], [hA 10 39 (.int .u32) (List.replicate (a2).toNat (0 : Int))]⟩ : St)) (by kernel_rfl) (tsI 1 ⟨o1, tsI 1 trivial⟩) ?_
 refine nn ?_
 refine aw_seq ?_
 refine srn 2 ⟨38, [e86_0 a, e86_1 b, e86_2 a2, e86_3, sI 11 a2, sI 12 (0 : Int)], [hA 10 39 (.int .u32) (List.replicate (a2).toNat (0 : Int))]⟩ (by kernel_rfl) rfl ?_
 refine withJoin (σ := LI) (fun s => (⟨38, [e86_3], [hA 10 39 (.int .u32) s]⟩ : St)) (fun s => VC86_k1 K s) (fun out h => ?_) (fun rest1 => ?_)
 ·have h : VC86_k1 K out := h
  unfold VC86_k1 at h
  refine thenQ_n ?_
  refine srn 2 ⟨38, [s1 5 (.own 10)], [e86_5 out]⟩ (by kernel_rfl) rfl ?_
  refine aw_ret ?_
  exact ⟨10, _, by kernel_rfl, by kernel_rfl, h⟩
 ·refine aw_block ?_
  refine aw_loop (σ := Int × LI) (fun s => (⟨38, [e86_0 a, e86_1 b, e86_2 a2, e86_3, sI 11 a2, sI 12 s.1], [hA 10 39 (.int .u32) s.2]⟩ : St)) (fun s X => VC86_l1 a b a2 K s.1 s.2 X) (s0 := ((0 : Int), (List.replicate (a2).toNat (0 : Int)))) (fun s X1 h => ?_) h
  obtain ⟨v12, out⟩ := s
  have h : VC86_l1 a b a2 K v12 out X1 := h
  unfold VC86_l1 at h
  refine srn 1 ⟨38, [e86_0 a, e86_1 b, e86_2 a2, e86_3, sI 11 a2, sI 12 v12, sB 13 (decide (v12 < a2))], [e86_5 out]⟩ (by kernel_rfl) rfl ?_
  refine aw_seq ?_
  refine aw_cond (b := (decide (v12 < a2))) (by kernel_rfl) (fun hb => ?_) (fun hb => ?_)
  ·have h := h.1 hb
   refine aw_skip ?_
   refine thenQ_n ?_
   refine aw_seq ?_
   refine aw_block ?_
   refine sr ?_
   refine rqT 2 ⟨38, [e86_0 a, e86_1 b, e86_2 a2, e86_3, sI 7 v12, sI 11 a2, sI 12 v12], [e86_5 out]⟩ (by kernel_rfl) ?_
   refine nsr ?_
   refine rqT 2 ⟨38, [e86_0 a, e86_1 b, e86_2 a2, e86_3, sI 7 v12, sI 11 a2, sI 12 v12, sI 15 a2, sI 16 (0 : Int)], [e86_5 out]⟩ (by kernel_rfl) ?_
   refine nn ?_
   refine withJoin (σ := LI) (fun s => (⟨38, [e86_0 a, e86_1 b, e86_2 a2, e86_3, sI 11 a2, sI 12 v12], [hA 10 39 (.int .u32) s]⟩ : St)) (fun s => VC86_k2 v12 X1 s) (fun out2 h => ?_) (fun rest2 => ?_)
   ·have h : VC86_k2 v12 X1 out2 := h
    unfold VC86_k2 at h
    refine blockQ_n ?_
    refine thenQ_n ?_
    refine aw_region ?_
    obtain ⟨o1, h⟩ := h
    refine rq 2 (ob := (InR (v12 + (1 : Int)) ∧ Ts 1 True)) (st' := (⟨38, [e86_0 a, e86_1 b, e86_2 a2, e86_3, sI 11 a2, sI 12 (v12 + (1 : Int))], [e86_4 out2]⟩ : St)) (by kernel_rfl) (⟨o1, tsI 1 trivial⟩) ?_
    refine awl_nil ?_
    exact thenQ_n ⟨((v12 + (1 : Int)), out2), rfl, h⟩
   ·refine aw_block ?_
    refine aw_loop (σ := Int × LI) (fun s => (⟨38, [e86_0 a, e86_1 b, e86_2 a2, e86_3, sI 7 v12, sI 11 a2, sI 12 v12, sI 15 a2, sI 16 s.1], [hA 10 39 (.int .u32) s.2]⟩ : St)) (fun s X => VC86_l2 a b a2 v12 X1 s.1 s.2 X) (s0 := ((0 : Int), out)) (fun s X2 h => ?_) h
    obtain ⟨v16, out2⟩ := s
    have h : VC86_l2 a b a2 v12 X1 v16 out2 X2 := h
    unfold VC86_l2 at h
    refine srn 1 ⟨38, [e86_0 a, e86_1 b, e86_2 a2, e86_3, sI 7 v12, sI 11 a2, sI 12 v12, sI 15 a2, sI 16 v16, sB 17 (decide (v16 < a2))], [e86_4 out2]⟩ (by kernel_rfl) rfl ?_
    refine aw_seq ?_
    refine aw_cond (b := (decide (v16 < a2))) (by kernel_rfl) (fun hb => ?_) (fun hb => ?_)
    ·have h := h.1 hb
     refine aw_skip ?_
     refine thenQ_n ?_
     refine aw_seq ?_
     refine aw_block ?_
     refine sr ?_
     refine rqT 2 ⟨38, [e86_0 a, e86_1 b, e86_2 a2, e86_3, sI 7 v12, sI 8 v16, sI 11 a2, sI 12 v12, sI 15 a2, sI 16 v16], [e86_4 out2]⟩ (by kernel_rfl) ?_
     refine nsr ?_
     obtain ⟨o1, h⟩ := h
     refine rq 5 (ob := (Ts 2 (inIdx v12 a.length ∧ Ts 2 True))) (st' := (⟨38, [e86_0 a, e86_1 b, e86_2 a2, e86_3, sI 7 v12, sI 8 v16, sI 11 a2, sI 12 v12, sI 15 a2, sI 16 v16, s1 22 (.pW (a.getD (v12).toNat (0 : Int))), sI 23 v16], [e86_4 out2]⟩ : St)) (by kernel_rfl) (tsI 2 ⟨o1, tsI 2 trivial⟩) ?_
     refine lcq (d := 24) [.d (.int .u32), .d tI] (fun ret24v => (⟨38, [e86_0 a, e86_1 b, e86_2 a2, e86_3, sI 7 v12, sI 8 v16, sI 11 a2, sI 12 v12, sI 15 a2, sI 16 v16, sB 24 ret24v], [e86_4 out2]⟩ : St)) (by kernel_rfl) Try.call44 (fun _ => by kernel_rfl) (link44 (a.getD (v12).toNat (0 : Int)) v16 _ h) (fun ret24v h => ?_)
     refine nn ?_
     refine withJoin (σ := LI) (fun s => (⟨38, [e86_0 a, e86_1 b, e86_2 a2, e86_3, sI 7 v12, sI 11 a2, sI 12 v12, sI 15 a2, sI 16 v16], [hA 10 39 (.int .u32) s]⟩ : St)) (fun s => VC86_k3 v16 X2 s) (fun out3 h => ?_) (fun rest3 => ?_)
     ·have h : VC86_k3 v16 X2 out3 := h
      unfold VC86_k3 at h
      refine blockQ_n ?_
      refine thenQ_n ?_
      refine aw_region ?_
      obtain ⟨o1, h⟩ := h
      refine rq 2 (ob := (InR (v16 + (1 : Int)) ∧ Ts 1 True)) (st' := (⟨38, [e86_0 a, e86_1 b, e86_2 a2, e86_3, sI 7 v12, sI 11 a2, sI 12 v12, sI 15 a2, sI 16 (v16 + (1 : Int))], [hA 10 39 (.int .u32) out3]⟩ : St)) (by kernel_rfl) (⟨o1, tsI 1 trivial⟩) ?_
      refine awl_nil ?_
      exact thenQ_n ⟨((v16 + (1 : Int)), out3), rfl, h⟩
     ·refine aw_cond (b := ret24v) (by kernel_rfl) (fun hb => ?_) (fun hb => ?_)
      ·have h := h.1 hb
       refine awd_begin [10] (by kernel_rfl) ?_
       obtain ⟨o1, o2, h⟩ := h
       refine drq (by kernel_rfl) [0, 1, 2, 4, 5, 6, 7] (ob := (Ts 2 (inIdx v12 out2.length ∧ Ts 2 (inIdx v16 b.length ∧ Ts 1 True)))) (done' := [7, 6, 5, 4, 2, 1, 0]) (st' := (⟨38, [e86_0 a, e86_1 b, e86_2 a2, e86_3, sI 7 v12, sI 11 a2, sI 12 v12, sI 15 a2, sI 16 v16, s1 25 (.own 10), sI 26 v12, s1 27 (.el 10 ((v12).toNat) 1), s1 32 (.pW (b.getD (v16).toNat (0 : Int)))], [e86_4 out2]⟩ : St)) (by kernel_rfl) (tsI 2 (⟨o1, tsI 2 ⟨o2, tsI 1 trivial⟩⟩)) ?_
       refine awd_one (i := 3) (by kernel_rfl) ?_
       refine dsq (ob := True) (st' := (⟨38, [e86_0 a, e86_1 b, e86_2 a2, e86_3, sI 7 v12, sI 11 a2, sI 12 v12, sI 15 a2, sI 16 v16, s1 25 (.own 10), sI 26 v12, s1 28 (.pW (out2.getD ((v12).toNat) (0 : Int))), s1 32 (.pW (b.getD (v16).toNat (0 : Int)))], [e86_4 out2]⟩ : St)) rfl (by kernel_rfl) trivial ?_
       obtain ⟨o1, h⟩ := h
       refine drq (by kernel_rfl) [8, 9] (ob := (Ts 1 (inIdx v12 out2.length ∧ True))) (done' := [9, 8, 3, 7, 6, 5, 4, 2, 1, 0]) (st' := (⟨38, [e86_0 a, e86_1 b, e86_2 a2, e86_3, sI 7 v12, sI 11 a2, sI 12 v12, sI 15 a2, sI 16 v16, s1 33 (.pW (bOr .u32 (out2.getD ((v12).toNat) (0 : Int)) (b.getD (v16).toNat (0 : Int)))), s1 34 (.el 10 ((v12).toNat) 1)], [e86_4 out2]⟩ : St)) (by kernel_rfl) (tsI 1 ⟨o1, trivial⟩) ?_
       refine awd_one (i := 10) (by kernel_rfl) ?_
       refine dsq (ob := True) (st' := (⟨38, [e86_0 a, e86_1 b, e86_2 a2, e86_3, sI 7 v12, sI 11 a2, sI 12 v12, sI 15 a2, sI 16 v16], [hA 10 39 (.int .u32) (out2.set ((v12).toNat) (bOr .u32 (out2.getD ((v12).toNat) (0 : Int)) (b.getD (v16).toNat (0 : Int))))]⟩ : St)) rfl (by kernel_rfl) trivial ?_
       refine awd_done (by kernel_rfl) ?_
       exact rest3 (out2.set ((v12).toNat) (bOr .u32 (out2.getD ((v12).toNat) (0 : Int)) (b.getD (v16).toNat (0 : Int)))) h
      ·have h := h.2 hb
       refine cpr (st' := (⟨38, [e86_0 a, e86_1 b, e86_2 a2, e86_3, sI 7 v12, sI 11 a2, sI 12 v12, sI 15 a2, sI 16 v16], [e86_4 out2]⟩ : St)) (by kernel_rfl) ?_
       refine aw_skip ?_
       exact rest3 out2 h
    ·have h := h.2 hb
     refine cpr (st' := (⟨38, [e86_0 a, e86_1 b, e86_2 a2, e86_3, sI 11 a2, sI 12 v12], [e86_4 out2]⟩ : St)) (by kernel_rfl) ?_
     refine aw_exit ?_
     refine thenQ_x ?_
     refine thenQ_x ?_
     refine blockQ_hit ?_
     exact rest2 out2 h
  ·have h := h.2 hb
   refine cpr (st' := (⟨38, [e86_3], [e86_5 out]⟩ : St)) (by kernel_rfl) ?_
   refine aw_exit ?_
   refine thenQ_x ?_
   refine thenQ_x ?_
   refine blockQ_hit ?_
   exact rest1 out h
abbrev e46_0 (l : LN) (v24 : Int) : Nat × Path × Con := hB 9 [.pI ((l.getD (v24).toNat z3).1), .pI ((l.getD (v24).toNat z3).2.1), .pI ((l.getD (v24).toNat z3).2.2)]
abbrev e46_1 (w : LI) : Nat × Path × AV := s1 5 (.ad tI ((w.length : Int) + (1 : Int)))
abbrev e46_2 (all : LL) : Nat × Path × Con := hA 5007 92 (.sl (.int .u32)) all
abbrev e46_3 (l : LN) : Nat × Path × AV := sI 23 (l.length : Int)
abbrev e46_4 (l : LN) : Nat × Path × AV := s1 22 (.p (.sl t3) l)
abbrev e46_5 : Nat × Path × AV := s1 7 (.own 5007)
abbrev e46_6 (w : LI) : Nat × Path × Con := hA 29 39 (.int .u32) (List.replicate (((w.length : Int) + (1 : Int))).toNat (0 : Int))
abbrev e46_7 : Nat × Path × AV := s1 10 (.own 29)
abbrev e46_8 (w : LI) : Nat × Path × AV := s1 1 (.pS w)
abbrev e46_9 (w : LI) : Nat × Path × AV := sI 117 ((w.length : Int) + (1 : Int))
abbrev e46_10 (rv : LI) (v81 : Int) (all : LL) (l : LN) (v24 : Int) : Nat × Path × Con := hA 29 39 (.int .u32) (rv.set ((v81).toNat) (bOr .u32 ((all.getD (((l.getD (v24).toNat z3).2.1).toNat) ([] : LI)).getD (v81).toNat (0 : Int)) ((all.getD (((l.getD (v24).toNat z3).2.2).toNat) ([] : LI)).getD (v81).toNat (0 : Int))))
abbrev e46_11 (rv : LI) : Nat × Path × Con := hA 29 39 (.int .u32) rv
abbrev e46_12 (w : LI) : Nat × Path × AV := sI 128 ((w.length : Int) + (1 : Int))
abbrev e46_13 (ret127v : LI) : Nat × Path × Con := hA 127 39 (.int .u32) ret127v
abbrev e46_14 (rv3 : LI) (v129 : Int) (ret127v : LI) : Nat × Path × Con := hA 29 39 (.int .u32) (rv3.set ((v129).toNat) (bOr .u32 (rv3.getD ((v129).toNat) (0 : Int)) (ret127v.getD ((v129).toNat) (0 : Int))))
abbrev e46_15 (w : LI) : Nat × Path × AV := sI 80 ((w.length : Int) + (1 : Int))
abbrev e46_16 (w : LI) : Nat × Path × AV := sI 107 ((w.length : Int) + (1 : Int))
abbrev e46_17 (w : LI) : Nat × Path × AV := sI 34 ((w.length : Int) + (1 : Int))
abbrev e46_18 (w : LI) : Nat × Path × AV := sI 47 (w.length : Int)
abbrev e46_19 (rv2 : LI) : Nat × Path × Con := hA 29 39 (.int .u32) rv2
abbrev e46_20 (rv3 : LI) : Nat × Path × Con := hA 29 39 (.int .u32) rv3
abbrev e46_21 (l : LN) (v24 : Int) : Nat × Path × AV := sI 31 ((l.getD (v24).toNat z3).1)
abbrev e46_22 : Nat × Path × AV := s1 16 (.own 127)
-- coppicer/sentence.match
def VC46_k1 (K : LI → Prop) (all : LL) : Prop :=
  (InR ((all.length : Int) - (1 : Int)) ∧ inIdx ((all.length : Int) - (1 : Int)) all.length ∧ K (all.getD ((((all.length : Int) - (1 : Int))).toNat) ([] : LI)))
def VC46_k2 (v24 : Int) (all : LL) (X1 : Int × LL → Prop) (rv : LI) : Prop :=
  (roomN (all.length + [rv].length) ∧ (InR (v24 + (1 : Int)) ∧ X1 ((v24 + (1 : Int)), (all ++ [rv]))))
def VC46_k3 (v24 : Int) (all : LL) (X1 : Int × LL → Prop) (rv : LI) : Prop :=
  VC46_k2 v24 all X1 rv
def VC46_l2 (w : LI) (v24 : Int) (all : LL) (X1 : Int × LL → Prop) (v35 : Int) (rv : LI) (X2 : Int × LI → Prop) : Prop :=
  (((decide (v35 < ((w.length : Int) + (1 : Int)))) = true → (0 ≤ v35 ∧ inIdx v35 rv.length ∧ (InR (v35 + (1 : Int)) ∧ X2 ((v35 + (1 : Int)), (rv.set ((v35).toNat) (bShl .u32 (1 : Int) v35)))))) ∧ ((decide (v35 < ((w.length : Int) + (1 : Int)))) = false → VC46_k3 v24 all X1 rv))
def VC46_k4 (v24 : Int) (all : LL) (X1 : Int × LL → Prop) (rv : LI) : Prop :=
  VC46_k2 v24 all X1 rv
def VC46_k5 (v24 : Int) (all : LL) (X1 : Int × LL → Prop) (rv : LI) : Prop :=
  VC46_k4 v24 all X1 rv
def VC46_k6 (v48 : Int) (X3 : Int × LI → Prop) (rv2 : LI) : Prop :=
  (InR (v48 + (1 : Int)) ∧ X3 ((v48 + (1 : Int)), rv2))
def VC46_l3 (l : LN) (w : LI) (v24 : Int) (all : LL) (X1 : Int × LL → Prop) (v48 : Int) (rv : LI) (X3 : Int × LI → Prop) : Prop :=
  (((decide (v48 < (w.length : Int))) = true → (inIdx v48 w.length ∧ (((decide ((w.getD (v48).toNat (0 : Int)) = (l.getD (v24).toNat z3).2.1)) = true → (InR (v48 + (1 : Int)) ∧ 0 ≤ (v48 + (1 : Int)) ∧ inIdx v48 rv.length ∧ VC46_k6 v48 X3 (rv.set ((v48).toNat) (bShl .u32 (1 : Int) (v48 + (1 : Int)))))) ∧ ((decide ((w.getD (v48).toNat (0 : Int)) = (l.getD (v24).toNat z3).2.1)) = false → VC46_k6 v48 X3 rv)))) ∧ ((decide (v48 < (w.length : Int))) = false → VC46_k5 v24 all X1 rv))
def VC46_k7 (v24 : Int) (all : LL) (X1 : Int × LL → Prop) (rv : LI) : Prop :=
  VC46_k4 v24 all X1 rv
def VC46_k8 (v24 : Int) (all : LL) (X1 : Int × LL → Prop) (rv : LI) : Prop :=
  VC46_k7 v24 all X1 rv
def VC46_k9 (v24 : Int) (all : LL) (X1 : Int × LL → Prop) (rv : LI) : Prop :=
  VC46_k8 v24 all X1 rv
def VC46_l4 (l : LN) (w : LI) (v24 : Int) (all : LL) (X1 : Int × LL → Prop) (v81 : Int) (rv : LI) (X4 : Int × LI → Prop) : Prop :=
  (((decide (v81 < ((w.length : Int) + (1 : Int)))) = true → (inIdx ((l.getD (v24).toNat z3).2.1) all.length ∧ inIdx v81 (all.getD (((l.getD (v24).toNat z3).2.1).toNat) ([] : LI)).length ∧ inIdx ((l.getD (v24).toNat z3).2.2) all.length ∧ inIdx v81 (all.getD (((l.getD (v24).toNat z3).2.2).toNat) ([] : LI)).length ∧ inIdx v81 rv.length ∧ (InR (v81 + (1 : Int)) ∧ X4 ((v81 + (1 : Int)), (rv.set ((v81).toNat) (bOr .u32 ((all.getD (((l.getD (v24).toNat z3).2.1).toNat) ([] : LI)).getD (v81).toNat (0 : Int)) ((all.getD (((l.getD (v24).toNat z3).2.2).toNat) ([] : LI)).getD (v81).toNat (0 : Int)))))))) ∧ ((decide (v81 < ((w.length : Int) + (1 : Int)))) = false → VC46_k9 v24 all X1 rv))
def VC46_k10 (v24 : Int) (all : LL) (X1 : Int × LL → Prop) (rv : LI) : Prop :=
  VC46_k8 v24 all X1 rv
def VC46_k12 (v24 : Int) (all : LL) (X1 : Int × LL → Prop) (rv2 : LI) : Prop :=
  VC46_k10 v24 all X1 rv2
def VC46_k13 (v118 : Int) (X5 : Int × LI → Prop) (rv3 : LI) : Prop :=
  (InR (v118 + (1 : Int)) ∧ X5 ((v118 + (1 : Int)), rv3))
def VC46_l6 (w : LI) (v118 : Int) (X5 : Int × LI → Prop) (ret127v : LI) (v129 : Int) (rv3 : LI) (X6 : Int × LI → Prop) : Prop :=
  (((decide (v129 < ((w.length : Int) + (1 : Int)))) = true → (inIdx v129 rv3.length ∧ inIdx v129 ret127v.length ∧ (inIdx v129 rv3.length ∧ (InR (v129 + (1 : Int)) ∧ X6 ((v129 + (1 : Int)), (rv3.set ((v129).toNat) (bOr .u32 (rv3.getD ((v129).toNat) (0 : Int)) (ret127v.getD ((v129).toNat) (0 : Int))))))))) ∧ ((decide (v129 < ((w.length : Int) + (1 : Int)))) = false → VC46_k13 v118 X5 rv3))
def VC46_l5 (l : LN) (w : LI) (v24 : Int) (all : LL) (X1 : Int × LL → Prop) (v118 : Int) (rv2 : LI) (X5 : Int × LI → Prop) : Prop :=
  (((decide (v118 < ((w.length : Int) + (1 : Int)))) = true → (inIdx ((l.getD (v24).toNat z3).2.1) all.length ∧ VC86 rv2 (all.getD (((l.getD (v24).toNat z3).2.1).toNat) ([] : LI)) ((w.length : Int) + (1 : Int)) (fun (ret127v : LI) => Loop (σ := Int × LI) (fun s X => VC46_l6 w v118 X5 ret127v s.1 s.2 X) ((0 : Int), rv2)))) ∧ ((decide (v118 < ((w.length : Int) + (1 : Int)))) = false → VC46_k12 v24 all X1 rv2))
def VC46_k11 (l : LN) (w : LI) (v24 : Int) (all : LL) (X1 : Int × LL → Prop) (rv : LI) : Prop :=
  Loop (σ := Int × LI) (fun s X => VC46_l5 l w v24 all X1 s.1 s.2 X) ((0 : Int), rv)
def VC46_l7 (l : LN) (w : LI) (v24 : Int) (all : LL) (X1 : Int × LL → Prop) (v108 : Int) (rv : LI) (X7 : Int × LI → Prop) : Prop :=
  (((decide (v108 < ((w.length : Int) + (1 : Int)))) = true → (0 ≤ v108 ∧ inIdx v108 rv.length ∧ (InR (v108 + (1 : Int)) ∧ X7 ((v108 + (1 : Int)), (rv.set ((v108).toNat) (bShl .u32 (1 : Int) v108)))))) ∧ ((decide (v108 < ((w.length : Int) + (1 : Int)))) = false → VC46_k11 l w v24 all X1 rv))
def VC46_l1 (l : LN) (w : LI) (K : LI → Prop) (v24 : Int) (all : LL) (X1 : Int × LL → Prop) : Prop :=
  (((decide (v24 < (l.length : Int))) = true → (inIdx v24 l.length ∧ (room ((w.length : Int) + (1 : Int)) ∧ (((decide ((l.getD (v24).toNat z3).1 = (2 : Int))) = true → Loop (σ := Int × LI) (fun s X => VC46_l2 w v24 all X1 s.1 s.2 X) ((0 : Int), (List.replicate (((w.length : Int) + (1 : Int))).toNat (0 : Int)))) ∧ ((decide ((l.getD (v24).toNat z3).1 = (2 : Int))) = false → (((decide ((l.getD (v24).toNat z3).1 = (3 : Int))) = true → Loop (σ := Int × LI) (fun s X => VC46_l3 l w v24 all X1 s.1 s.2 X) ((0 : Int), (List.replicate (((w.length : Int) + (1 : Int))).toNat (0 : Int)))) ∧ ((decide ((l.getD (v24).toNat z3).1 = (3 : Int))) = false → (((decide ((l.getD (v24).toNat z3).1 = (4 : Int))) = true → (inIdx ((l.getD (v24).toNat z3).2.1) all.length ∧ inIdx ((l.getD (v24).toNat z3).2.2) all.length ∧ VC86 (all.getD (((l.getD (v24).toNat z3).2.1).toNat) ([] : LI)) (all.getD (((l.getD (v24).toNat z3).2.2).toNat) ([] : LI)) ((w.length : Int) + (1 : Int)) (fun (ret77v : LI) => VC46_k7 v24 all X1 ret77v))) ∧ ((decide ((l.getD (v24).toNat z3).1 = (4 : Int))) = false → (((decide ((l.getD (v24).toNat z3).1 = (5 : Int))) = true → Loop (σ := Int × LI) (fun s X => VC46_l4 l w v24 all X1 s.1 s.2 X) ((0 : Int), (List.replicate (((w.length : Int) + (1 : Int))).toNat (0 : Int)))) ∧ ((decide ((l.getD (v24).toNat z3).1 = (5 : Int))) = false → (((decide ((l.getD (v24).toNat z3).1 = (6 : Int))) = true → Loop (σ := Int × LI) (fun s X => VC46_l7 l w v24 all X1 s.1 s.2 X) ((0 : Int), (List.replicate (((w.length : Int) + (1 : Int))).toNat (0 : Int)))) ∧ ((decide ((l.getD (v24).toNat z3).1 = (6 : Int))) = false → VC46_k10 v24 all X1 (List.replicate (((w.length : Int) + (1 : Int))).toNat (0 : Int))))))))))))))) ∧ ((decide (v24 < (l.length : Int))) = false → VC46_k1 K all))
def VC46 (l : LN) (w : LI) (K : LI → Prop) : Prop :=
  (InR ((w.length : Int) + (1 : Int)) ∧ Loop (σ := Int × LL) (fun s X => VC46_l1 l w K s.1 s.2 X) ((0 : Int), ([] : List LI)))
set_option maxHeartbeats 4000000 in
theorem link46 (l : LN) (w : LI) (K : LI → Prop) (h : VC46 l w K) : ACalls Try.prog 46 [toV1 (.sl t3) l, toV1 (.sl tI) w] (fun res => ∃ y, res = (fun y => [toV1 (.sl (.int .u32)) y]) y ∧ K y) := by
 refine acalls_of_aw [(.sl (.int .u32))] [.t 4] Try.func46 rfl rfl rfl ?_
 unfold VC46 at h
 refine sr ?_
 refine rqT 1 ⟨155, [s1 0 (.p (.sl t3) l), e46_8 w], []⟩ (by kernel_rfl) ?_
 refine nsr ?_
 obtain ⟨o1, h⟩ := h
 refine rq 5 (ob := (Ts 2 (InR ((w.length : Int) + (1 : Int)) ∧ Ts 2 True))) (st' := (⟨155, [s1 0 (.p (.sl t3) l), e46_8 w, sp 5 5], [hB 5 [.pI ((w.length : Int) + (1 : Int))]]⟩ : St)) (by kernel_rfl) (tsI 2 ⟨o1, tsI 2 trivial⟩) ?_
 refine nsr ?_
 refine awl_conv [.freezeB 5 tI] (st' := (⟨155, [s1 0 (.p (.sl t3) l), e46_8 w, e46_1 w], []⟩ : St)) (by kernel_rfl) ?_
 refine rqT 2 ⟨155, [s1 0 (.p (.sl t3) l), e46_8 w, e46_1 w, s1 6 (.fn 86 [(⟨tI, ((w.length : Int) + (1 : Int))⟩ : Dat)])], []⟩ (by kernel_rfl) ?_
 refine nsr ?_
 refine rqT 1 ⟨155, [s1 0 (.p (.sl t3) l), e46_8 w, e46_1 w, s1 6 (.fn 86 [(⟨tI, ((w.length : Int) + (1 : Int))⟩ : Dat)]), s1 7 (.nils)], []⟩ (by kernel_rfl) ?_
 refine nn ?_
 refine aw_seq ?_
 refine srn 3 ⟨155, [e46_8 w, e46_1 w, s1 6 (.fn 86 [(⟨tI, ((w.length : Int) + (1 : Int))⟩ : Dat)]), s1 7 (.nils), e46_4 l, e46_3 l, sI 24 (0 : Int)], []⟩ (by kernel_rfl) rfl ?_
 refine withJoin (σ := LL) (fun s => (⟨155, [e46_5], [hA 5007 92 (.sl (.int .u32)) s]⟩ : St)) (fun s => VC46_k1 K s) (fun all h => ?_) (fun rest1 => ?_)
 ·have h : VC46_k1 K all := h
  unfold VC46_k1 at h
  refine thenQ_n ?_
  refine sr ?_
  obtain ⟨o1, o2, h⟩ := h
  refine rq 7 (ob := (Ts 3 (InR ((all.length : Int) - (1 : Int)) ∧ inIdx ((all.length : Int) - (1 : Int)) all.length ∧ Ts 2 True))) (st' := (⟨155, [s1 4 (.p (.sl (.int .u32)) (all.getD ((((all.length : Int) - (1 : Int))).toNat) ([] : LI)))], []⟩ : St)) (by kernel_rfl) (tsI 3 (⟨o1, ⟨o2, tsI 2 trivial⟩⟩)) ?_
  refine nn ?_
  refine aw_ret ?_
  exact retQ_r (ob := Ts 1 True) _ (by kernel_rfl) (tsI 1 trivial) h
 ·refine aw_block ?_
  refine aw_conv [.nilOwn 7 5007 92 (.sl (.int .u32)), .prune [1, 5, 6, 7, 22, 23, 24] [5007]] (st' := (⟨155, [e46_8 w, e46_1 w, s1 6 (.fn 86 [(⟨tI, ((w.length : Int) + (1 : Int))⟩ : Dat)]), e46_5, e46_4 l, e46_3 l, sI 24 (0 : Int)], [hA 5007 92 (.sl (.int .u32)) ([] : List LI)]⟩ : St)) (by kernel_rfl) ?_
  refine aw_loop (σ := Int × LL) (fun s => (⟨155, [e46_8 w, e46_1 w, s1 6 (.fn 86 [(⟨tI, ((w.length : Int) + (1 : Int))⟩ : Dat)]), e46_5, e46_4 l, e46_3 l, sI 24 s.1], [hA 5007 92 (.sl (.int .u32)) s.2]⟩ : St)) (fun s X => VC46_l1 l w K s.1 s.2 X) (s0 := ((0 : Int), ([] : List LI))) (fun s X1 h => ?_) h
  obtain ⟨v24, all⟩ := s
  have h : VC46_l1 l w K v24 all X1 := h
  unfold VC46_l1 at h
  refine srn 1 ⟨155, [e46_8 w, e46_1 w, s1 6 (.fn 86 [(⟨tI, ((w.length : Int) + (1 : Int))⟩ : Dat)]), e46_5, e46_4 l, e46_3 l, sI 24 v24, sB 25 (decide (v24 < (l.length : Int)))], [e46_2 all]⟩ (by kernel_rfl) rfl ?_
  refine aw_seq ?_
  refine aw_cond (b := (decide (v24 < (l.length : Int)))) (by kernel_rfl) (fun hb => ?_) (fun hb => ?_)
  ·have h := h.1 hb
   refine aw_skip ?_
   refine thenQ_n ?_
   refine aw_seq ?_
   refine aw_block ?_
   refine sr ?_
   obtain ⟨o1, h⟩ := h
   refine rq 4 (ob := (inIdx v24 l.length ∧ Ts 3 True)) (st' := (⟨155, [e46_8 w, e46_1 w, s1 6 (.fn 86 [(⟨tI, ((w.length : Int) + (1 : Int))⟩ : Dat)]), e46_5, sp 9 9, e46_4 l, e46_3 l, sI 24 v24], [e46_0 l v24, e46_2 all]⟩ : St)) (by kernel_rfl) (⟨o1, tsI 3 trivial⟩) ?_
   refine nsr ?_
   obtain ⟨o1, h⟩ := h
   refine rq 3 (ob := (Ts 1 (room ((w.length : Int) + (1 : Int)) ∧ Ts 1 True))) (st' := (⟨155, [e46_8 w, e46_1 w, s1 6 (.fn 86 [(⟨tI, ((w.length : Int) + (1 : Int))⟩ : Dat)]), e46_5, sp 9 9, e46_7, e46_4 l, e46_3 l, sI 24 v24], [e46_0 l v24, e46_6 w, e46_2 all]⟩ : St)) (by kernel_rfl) (tsI 1 ⟨o1, tsI 1 trivial⟩) ?_
   refine nn ?_
   refine aw_seq ?_
   refine srn 2 ⟨155, [e46_8 w, e46_1 w, s1 6 (.fn 86 [(⟨tI, ((w.length : Int) + (1 : Int))⟩ : Dat)]), e46_5, sp 9 9, e46_7, e46_4 l, e46_3 l, sI 24 v24, e46_21 l v24], [e46_0 l v24, e46_6 w, e46_2 all]⟩ (by kernel_rfl) rfl ?_
   refine aw_block ?_
   refine srn 2 ⟨155, [e46_8 w, e46_1 w, s1 6 (.fn 86 [(⟨tI, ((w.length : Int) + (1 : Int))⟩ : Dat)]), e46_5, sp 9 9, e46_7, e46_4 l, e46_3 l, sI 24 v24, e46_21 l v24, sB 32 (decide ((l.getD (v24).toNat z3).1 = (2 : Int)))], [e46_0 l v24, e46_6 w, e46_2 all]⟩ (by kernel_rfl) rfl ?_
   refine withJoin (σ := LI) (fun s => (⟨155, [e46_8 w, e46_1 w, s1 6 (.fn 86 [(⟨tI, ((w.length : Int) + (1 : Int))⟩ : Dat)]), e46_5, e46_7, e46_4 l, e46_3 l, sI 24 v24], [hA 29 39 (.int .u32) s, e46_2 all]⟩ : St)) (fun s => VC46_k2 v24 all X1 s) (fun rv h => ?_) (fun rest2 => ?_)
   ·have h : VC46_k2 v24 all X1 rv := h
    unfold VC46_k2 at h
    refine blockQ_n ?_
    refine thenQ_n ?_
    refine aw_region ?_
    refine rqT 2 ⟨155, [e46_8 w, e46_1 w, s1 6 (.fn 86 [(⟨tI, ((w.length : Int) + (1 : Int))⟩ : Dat)]), e46_4 l, e46_3 l, sI 24 v24, s1 144 (.own 5007), s1 145 (.own 29)], [e46_11 rv, e46_2 all]⟩ (by kernel_rfl) ?_
    refine awl_conv [.freeze 29] (st' := (⟨155, [e46_8 w, e46_1 w, s1 6 (.fn 86 [(⟨tI, ((w.length : Int) + (1 : Int))⟩ : Dat)]), e46_4 l, e46_3 l, sI 24 v24, s1 144 (.own 5007), s1 145 (.p (.sl (.int .u32)) rv)], [e46_2 all]⟩ : St)) (by kernel_rfl) ?_
    obtain ⟨o1, h⟩ := h
    refine rq 3 (ob := (Ts 1 (roomN (all.length + [rv].length) ∧ Ts 1 True))) (st' := (⟨155, [e46_8 w, e46_1 w, s1 6 (.fn 86 [(⟨tI, ((w.length : Int) + (1 : Int))⟩ : Dat)]), s1 7 (.own 147), e46_4 l, e46_3 l, sI 24 v24], [hA 147 92 (.sl (.int .u32)) (all ++ [rv])]⟩ : St)) (by kernel_rfl) (tsI 1 ⟨o1, tsI 1 trivial⟩) ?_
    refine awl_nil ?_
    refine blockQ_n ?_
    refine thenQ_n ?_
    refine aw_region ?_
    obtain ⟨o1, h⟩ := h
    refine rq 2 (ob := (InR (v24 + (1 : Int)) ∧ Ts 1 True)) (st' := (⟨155, [e46_8 w, e46_1 w, s1 6 (.fn 86 [(⟨tI, ((w.length : Int) + (1 : Int))⟩ : Dat)]), s1 7 (.own 147), e46_4 l, e46_3 l, sI 24 (v24 + (1 : Int))], [hA 147 92 (.sl (.int .u32)) (all ++ [rv])]⟩ : St)) (by kernel_rfl) (⟨o1, tsI 1 trivial⟩) ?_
    refine awl_conv [.ren 147 20147, .ren 20147 5007] (st' := (⟨155, [e46_8 w, e46_1 w, s1 6 (.fn 86 [(⟨tI, ((w.length : Int) + (1 : Int))⟩ : Dat)]), e46_5, e46_4 l, e46_3 l, sI 24 (v24 + (1 : Int))], [hA 5007 92 (.sl (.int .u32)) (all ++ [rv])]⟩ : St)) (by kernel_rfl) ?_
    refine awl_nil ?_
    exact thenQ_n ⟨((v24 + (1 : Int)), (all ++ [rv])), rfl, h⟩
   ·refine aw_cond (b := (decide ((l.getD (v24).toNat z3).1 = (2 : Int)))) (by kernel_rfl) (fun hb => ?_) (fun hb => ?_)
    ·have h := h.1 hb
     refine srn 2 ⟨155, [e46_8 w, e46_1 w, s1 6 (.fn 86 [(⟨tI, ((w.length : Int) + (1 : Int))⟩ : Dat)]), e46_5, e46_7, e46_4 l, e46_3 l, sI 24 v24, e46_17 w, sI 35 (0 : Int)], [e46_6 w, e46_2 all]⟩ (by kernel_rfl) rfl ?_
     refine withJoin (σ := LI) (fun s => (⟨155, [e46_8 w, e46_1 w, s1 6 (.fn 86 [(⟨tI, ((w.length : Int) + (1 : Int))⟩ : Dat)]), e46_5, e46_7, e46_4 l, e46_3 l, sI 24 v24], [hA 29 39 (.int .u32) s, e46_2 all]⟩ : St)) (fun s => VC46_k3 v24 all X1 s) (fun rv h => ?_) (fun rest3 => ?_)
     ·have h : VC46_k3 v24 all X1 rv := h
      unfold VC46_k3 at h
      exact rest2 rv h
     ·refine aw_block ?_
      refine aw_loop (σ := Int × LI) (fun s => (⟨155, [e46_8 w, e46_1 w, s1 6 (.fn 86 [(⟨tI, ((w.length : Int) + (1 : Int))⟩ : Dat)]), e46_5, e46_7, e46_4 l, e46_3 l, sI 24 v24, e46_17 w, sI 35 s.1], [hA 29 39 (.int .u32) s.2, e46_2 all]⟩ : St)) (fun s X => VC46_l2 w v24 all X1 s.1 s.2 X) (s0 := ((0 : Int), (List.replicate (((w.length : Int) + (1 : Int))).toNat (0 : Int)))) (fun s X2 h => ?_) h
      obtain ⟨v35, rv⟩ := s
      have h : VC46_l2 w v24 all X1 v35 rv X2 := h
      unfold VC46_l2 at h
      refine srn 1 ⟨155, [e46_8 w, e46_1 w, s1 6 (.fn 86 [(⟨tI, ((w.length : Int) + (1 : Int))⟩ : Dat)]), e46_5, e46_7, e46_4 l, e46_3 l, sI 24 v24, e46_17 w, sI 35 v35, sB 36 (decide (v35 < ((w.length : Int) + (1 : Int))))], [e46_11 rv, e46_2 all]⟩ (by kernel_rfl) rfl ?_
      refine aw_seq ?_
      refine aw_cond (b := (decide (v35 < ((w.length : Int) + (1 : Int))))) (by kernel_rfl) (fun hb => ?_) (fun hb => ?_)
      ·have h := h.1 hb
       refine aw_skip ?_
       refine thenQ_n ?_
       refine aw_seq ?_
       refine aw_block ?_
       refine srn 2 ⟨155, [e46_8 w, e46_1 w, s1 6 (.fn 86 [(⟨tI, ((w.length : Int) + (1 : Int))⟩ : Dat)]), e46_5, e46_7, sI 11 v35, e46_4 l, e46_3 l, sI 24 v24, e46_17 w, sI 35 v35], [e46_11 rv, e46_2 all]⟩ (by kernel_rfl) rfl ?_
       refine aw_region ?_
       obtain ⟨o1, o2, h⟩ := h
       refine rq 6 (ob := (Ts 3 (0 ≤ v35 ∧ inIdx v35 rv.length ∧ Ts 1 True))) (st' := (⟨155, [e46_8 w, e46_1 w, s1 6 (.fn 86 [(⟨tI, ((w.length : Int) + (1 : Int))⟩ : Dat)]), e46_5, e46_7, e46_4 l, e46_3 l, sI 24 v24, e46_17 w, sI 35 v35], [hA 29 39 (.int .u32) (rv.set ((v35).toNat) (bShl .u32 (1 : Int) v35)), e46_2 all]⟩ : St)) (by kernel_rfl) (tsI 3 (⟨o1, ⟨o2, tsI 1 trivial⟩⟩)) ?_
       refine awl_nil ?_
       refine blockQ_n ?_
       refine thenQ_n ?_
       refine aw_region ?_
       obtain ⟨o1, h⟩ := h
       refine rq 2 (ob := (InR (v35 + (1 : Int)) ∧ Ts 1 True)) (st' := (⟨155, [e46_8 w, e46_1 w, s1 6 (.fn 86 [(⟨tI, ((w.length : Int) + (1 : Int))⟩ : Dat)]), e46_5, e46_7, e46_4 l, e46_3 l, sI 24 v24, e46_17 w, sI 35 (v35 + (1 : Int))], [hA 29 39 (.int .u32) (rv.set ((v35).toNat) (bShl .u32 (1 : Int) v35)), e46_2 all]⟩ : St)) (by kernel_rfl) (⟨o1, tsI 1 trivial⟩) ?_
       refine awl_nil ?_
       exact thenQ_n ⟨((v35 + (1 : Int)), (rv.set ((v35).toNat) (bShl .u32 (1 : Int) v35))), rfl, h⟩
      ·have h := h.2 hb
       refine cpr (st' := (⟨155, [e46_8 w, e46_1 w, s1 6 (.fn 86 [(⟨tI, ((w.length : Int) + (1 : Int))⟩ : Dat)]), e46_5, e46_7, e46_4 l, e46_3 l, sI 24 v24], [e46_11 rv, e46_2 all]⟩ : St)) (by kernel_rfl) ?_
       refine aw_exit ?_
       refine thenQ_x ?_
       refine thenQ_x ?_
       refine blockQ_hit ?_
       exact rest3 rv h
    ·have h := h.2 hb
     refine srn 2 ⟨155, [e46_8 w, e46_1 w, s1 6 (.fn 86 [(⟨tI, ((w.length : Int) + (1 : Int))⟩ : Dat)]), e46_5, sp 9 9, e46_7, e46_4 l, e46_3 l, sI 24 v24, e46_21 l v24, sB 44 (decide ((l.getD (v24).toNat z3).1 = (3 : Int)))], [e46_0 l v24, e46_6 w, e46_2 all]⟩ (by kernel_rfl) rfl ?_
     refine withJoin (σ := LI) (fun s => (⟨155, [e46_8 w, e46_1 w, s1 6 (.fn 86 [(⟨tI, ((w.length : Int) + (1 : Int))⟩ : Dat)]), e46_5, e46_7, e46_4 l, e46_3 l, sI 24 v24], [hA 29 39 (.int .u32) s, e46_2 all]⟩ : St)) (fun s => VC46_k4 v24 all X1 s) (fun rv h => ?_) (fun rest4 => ?_)
     ·have h : VC46_k4 v24 all X1 rv := h
      unfold VC46_k4 at h
      exact rest2 rv h
     ·refine aw_cond (b := (decide ((l.getD (v24).toNat z3).1 = (3 : Int)))) (by kernel_rfl) (fun hb => ?_) (fun hb => ?_)
      ·have h := h.1 hb
       refine srn 3 ⟨155, [e46_8 w, e46_1 w, s1 6 (.fn 86 [(⟨tI, ((w.length : Int) + (1 : Int))⟩ : Dat)]), e46_5, sp 9 9, e46_7, e46_4 l, e46_3 l, sI 24 v24, s1 46 (.pS w), e46_18 w, sI 48 (0 : Int)], [e46_0 l v24, e46_6 w, e46_2 all]⟩ (by kernel_rfl) rfl ?_
       refine withJoin (σ := LI) (fun s => (⟨155, [e46_8 w, e46_1 w, s1 6 (.fn 86 [(⟨tI, ((w.length : Int) + (1 : Int))⟩ : Dat)]), e46_5, e46_7, e46_4 l, e46_3 l, sI 24 v24], [hA 29 39 (.int .u32) s, e46_2 all]⟩ : St)) (fun s => VC46_k5 v24 all X1 s) (fun rv h => ?_) (fun rest5 => ?_)
       ·have h : VC46_k5 v24 all X1 rv := h
        unfold VC46_k5 at h
        exact rest4 rv h
       ·refine aw_block ?_
        refine aw_loop (σ := Int × LI) (fun s => (⟨155, [e46_8 w, e46_1 w, s1 6 (.fn 86 [(⟨tI, ((w.length : Int) + (1 : Int))⟩ : Dat)]), e46_5, sp 9 9, e46_7, e46_4 l, e46_3 l, sI 24 v24, s1 46 (.pS w), e46_18 w, sI 48 s.1], [e46_0 l v24, hA 29 39 (.int .u32) s.2, e46_2 all]⟩ : St)) (fun s X => VC46_l3 l w v24 all X1 s.1 s.2 X) (s0 := ((0 : Int), (List.replicate (((w.length : Int) + (1 : Int))).toNat (0 : Int)))) (fun s X3 h => ?_) h
        obtain ⟨v48, rv⟩ := s
        have h : VC46_l3 l w v24 all X1 v48 rv X3 := h
        unfold VC46_l3 at h
        refine srn 1 ⟨155, [e46_8 w, e46_1 w, s1 6 (.fn 86 [(⟨tI, ((w.length : Int) + (1 : Int))⟩ : Dat)]), e46_5, sp 9 9, e46_7, e46_4 l, e46_3 l, sI 24 v24, s1 46 (.pS w), e46_18 w, sI 48 v48, sB 49 (decide (v48 < (w.length : Int)))], [e46_0 l v24, e46_11 rv, e46_2 all]⟩ (by kernel_rfl) rfl ?_
        refine aw_seq ?_
        refine aw_cond (b := (decide (v48 < (w.length : Int)))) (by kernel_rfl) (fun hb => ?_) (fun hb => ?_)
        ·have h := h.1 hb
         refine aw_skip ?_
         refine thenQ_n ?_
         refine aw_seq ?_
         refine aw_block ?_
         refine sr ?_
         obtain ⟨o1, h⟩ := h
         refine rq 5 (ob := (Ts 1 (inIdx v48 w.length ∧ Ts 3 True))) (st' := (⟨155, [e46_8 w, e46_1 w, s1 6 (.fn 86 [(⟨tI, ((w.length : Int) + (1 : Int))⟩ : Dat)]), e46_5, sp 9 9, e46_7, sI 12 v48, sI 13 (w.getD (v48).toNat (0 : Int)), e46_4 l, e46_3 l, sI 24 v24, s1 46 (.pS w), e46_18 w, sI 48 v48], [e46_0 l v24, e46_11 rv, e46_2 all]⟩ : St)) (by kernel_rfl) (tsI 1 ⟨o1, tsI 3 trivial⟩) ?_
         refine nsr ?_
         refine rqT 4 ⟨155, [e46_8 w, e46_1 w, s1 6 (.fn 86 [(⟨tI, ((w.length : Int) + (1 : Int))⟩ : Dat)]), e46_5, sp 9 9, e46_7, sI 12 v48, e46_4 l, e46_3 l, sI 24 v24, s1 46 (.pS w), e46_18 w, sI 48 v48, sB 56 (decide ((w.getD (v48).toNat (0 : Int)) = (l.getD (v24).toNat z3).2.1))], [e46_0 l v24, e46_11 rv, e46_2 all]⟩ (by kernel_rfl) ?_
         refine nn ?_
         refine withJoin (σ := LI) (fun s => (⟨155, [e46_8 w, e46_1 w, s1 6 (.fn 86 [(⟨tI, ((w.length : Int) + (1 : Int))⟩ : Dat)]), e46_5, sp 9 9, e46_7, e46_4 l, e46_3 l, sI 24 v24, s1 46 (.pS w), e46_18 w, sI 48 v48], [e46_0 l v24, hA 29 39 (.int .u32) s, e46_2 all]⟩ : St)) (fun s => VC46_k6 v48 X3 s) (fun rv2 h => ?_) (fun rest6 => ?_)
         ·have h : VC46_k6 v48 X3 rv2 := h
          unfold VC46_k6 at h
          refine blockQ_n ?_
          refine thenQ_n ?_
          refine aw_region ?_
          obtain ⟨o1, h⟩ := h
          refine rq 2 (ob := (InR (v48 + (1 : Int)) ∧ Ts 1 True)) (st' := (⟨155, [e46_8 w, e46_1 w, s1 6 (.fn 86 [(⟨tI, ((w.length : Int) + (1 : Int))⟩ : Dat)]), e46_5, sp 9 9, e46_7, e46_4 l, e46_3 l, sI 24 v24, s1 46 (.pS w), e46_18 w, sI 48 (v48 + (1 : Int))], [e46_0 l v24, e46_19 rv2, e46_2 all]⟩ : St)) (by kernel_rfl) (⟨o1, tsI 1 trivial⟩) ?_
          refine awl_nil ?_
          exact thenQ_n ⟨((v48 + (1 : Int)), rv2), rfl, h⟩
         ·refine aw_cond (b := (decide ((w.getD (v48).toNat (0 : Int)) = (l.getD (v24).toNat z3).2.1))) (by kernel_rfl) (fun hb => ?_) (fun hb => ?_)
          ·have h := h.1 hb
           refine aw_region ?_
           obtain ⟨o1, o2, o3, h⟩ := h
           refine rq 7 (ob := (Ts 3 (InR (v48 + (1 : Int)) ∧ 0 ≤ (v48 + (1 : Int)) ∧ inIdx v48 rv.length ∧ Ts 1 True))) (st' := (⟨155, [e46_8 w, e46_1 w, s1 6 (.fn 86 [(⟨tI, ((w.length : Int) + (1 : Int))⟩ : Dat)]), e46_5, sp 9 9, e46_7, e46_4 l, e46_3 l, sI 24 v24, s1 46 (.pS w), e46_18 w, sI 48 v48], [e46_0 l v24, hA 29 39 (.int .u32) (rv.set ((v48).toNat) (bShl .u32 (1 : Int) (v48 + (1 : Int)))), e46_2 all]⟩ : St)) (by kernel_rfl) (tsI 3 (⟨o1, ⟨o2, ⟨o3, tsI 1 trivial⟩⟩⟩)) ?_
           refine awl_nil ?_
           exact rest6 (rv.set ((v48).toNat) (bShl .u32 (1 : Int) (v48 + (1 : Int)))) h
          ·have h := h.2 hb
           refine cpr (st' := (⟨155, [e46_8 w, e46_1 w, s1 6 (.fn 86 [(⟨tI, ((w.length : Int) + (1 : Int))⟩ : Dat)]), e46_5, sp 9 9, e46_7, e46_4 l, e46_3 l, sI 24 v24, s1 46 (.pS w), e46_18 w, sI 48 v48], [e46_0 l v24, e46_11 rv, e46_2 all]⟩ : St)) (by kernel_rfl) ?_
           refine aw_skip ?_
           exact rest6 rv h
        ·have h := h.2 hb
         refine cpr (st' := (⟨155, [e46_8 w, e46_1 w, s1 6 (.fn 86 [(⟨tI, ((w.length : Int) + (1 : Int))⟩ : Dat)]), e46_5, e46_7, e46_4 l, e46_3 l, sI 24 v24], [e46_11 rv, e46_2 all]⟩ : St)) (by kernel_rfl) ?_
         refine aw_exit ?_
         refine thenQ_x ?_
         refine thenQ_x ?_
         refine blockQ_hit ?_
         exact rest5 rv h
      ·have h := h.2 hb
       refine srn 2 ⟨155, [e46_8 w, e46_1 w, s1 6 (.fn 86 [(⟨tI, ((w.length : Int) + (1 : Int))⟩ : Dat)]), e46_5, sp 9 9, e46_7, e46_4 l, e46_3 l, sI 24 v24, e46_21 l v24, sB 64 (decide ((l.getD (v24).toNat z3).1 = (4 : Int)))], [e46_0 l v24, e46_6 w, e46_2 all]⟩ (by kernel_rfl) rfl ?_
       refine withJoin (σ := LI) (fun s => (⟨155, [e46_8 w, e46_1 w, s1 6 (.fn 86 [(⟨tI, ((w.length : Int) + (1 : Int))⟩ : Dat)]), e46_5, e46_7, e46_4 l, e46_3 l, sI 24 v24], [hA 29 39 (.int .u32) s, e46_2 all]⟩ : St)) (fun s => VC46_k7 v24 all X1 s) (fun rv h => ?_) (fun rest7 => ?_)
       ·have h : VC46_k7 v24 all X1 rv := h
        unfold VC46_k7 at h
        exact rest4 rv h
       ·refine aw_cond (b := (decide ((l.getD (v24).toNat z3).1 = (4 : Int)))) (by kernel_rfl) (fun hb => ?_) (fun hb => ?_)
        ·have h := h.1 hb
         refine awd_begin [] (by kernel_rfl) ?_
         obtain ⟨o1, o2, h⟩ := h
         refine drq (by kernel_rfl) [0, 1, 2, 3, 4, 5, 6, 7, 8, 9, 10] (ob := (Ts 4 (inIdx ((l.getD (v24).toNat z3).2.1) all.length ∧ Ts 4 (inIdx ((l.getD (v24).toNat z3).2.2) all.length ∧ Ts 1 True)))) (done' := [10, 9, 8, 7, 6, 5, 4, 3, 2, 1, 0]) (st' := (⟨155, [e46_8 w, e46_1 w, s1 6 (.fn 86 [(⟨tI, ((w.length : Int) + (1 : Int))⟩ : Dat)]), e46_5, e46_7, e46_4 l, e46_3 l, sI 24 v24, s1 66 (.fn 86 [(⟨tI, ((w.length : Int) + (1 : Int))⟩ : Dat)]), s1 71 (.p (.sl (.int .u32)) (all.getD (((l.getD (v24).toNat z3).2.1).toNat) ([] : LI))), s1 76 (.p (.sl (.int .u32)) (all.getD (((l.getD (v24).toNat z3).2.2).toNat) ([] : LI)))], [e46_6 w, e46_2 all]⟩ : St)) (by kernel_rfl) (tsI 4 (⟨o1, tsI 4 ⟨o2, tsI 1 trivial⟩⟩)) ?_
         refine awd_one (i := 11) (by kernel_rfl) ?_
         refine adop_callOk (e := 39) (t := (.int .u32)) (l := [toV1 (.sl (.int .u32)) (all.getD (((l.getD (v24).toNat z3).2.1).toNat) ([] : LI)), toV1 (.sl (.int .u32)) (all.getD (((l.getD (v24).toNat z3).2.2).toNat) ([] : LI))]) (cl := [.c (.ad tI ((w.length : Int) + (1 : Int)))]) false [.d (.sl (.int .u32)), .d (.sl (.int .u32))] [1, 5, 6, 7, 10, 22, 23, 24, 77] [29, 77, 5007] (fun (ret77v : LI) => VC46_k7 v24 all X1 ret77v) (fun ret77v => (⟨155, [e46_8 w, e46_1 w, s1 6 (.fn 86 [(⟨tI, ((w.length : Int) + (1 : Int))⟩ : Dat)]), e46_5, e46_7, e46_4 l, e46_3 l, sI 24 v24, s1 77 (.own 77)], [e46_6 w, hA 77 39 (.int .u32) ret77v, e46_2 all]⟩ : St)) rfl rfl rfl (by kernel_rfl) rfl (by kernel_rfl) Try.call86 (by kernel_rfl) (fun e => by cases e) (fun ret77v => by kernel_rfl) (link86 (all.getD (((l.getD (v24).toNat z3).2.1).toNat) ([] : LI)) (all.getD (((l.getD (v24).toNat z3).2.2).toNat) ([] : LI)) ((w.length : Int) + (1 : Int)) _ h) (fun ret77v h => ?_)
         refine drq (by kernel_rfl) [12] (ob := (Ts 1 True)) (done' := [12, 11, 10, 9, 8, 7, 6, 5, 4, 3, 2, 1, 0]) (st' := (⟨155, [e46_8 w, e46_1 w, s1 6 (.fn 86 [(⟨tI, ((w.length : Int) + (1 : Int))⟩ : Dat)]), e46_5, s1 10 (.own 77), e46_4 l, e46_3 l, sI 24 v24], [hA 77 39 (.int .u32) ret77v, e46_2 all]⟩ : St)) (by kernel_rfl) (tsI 1 trivial) ?_
         refine awd_end [.ren 77 20077, .ren 20077 29] (st' := (⟨155, [e46_8 w, e46_1 w, s1 6 (.fn 86 [(⟨tI, ((w.length : Int) + (1 : Int))⟩ : Dat)]), e46_5, e46_7, e46_4 l, e46_3 l, sI 24 v24], [hA 29 39 (.int .u32) ret77v, e46_2 all]⟩ : St)) (by kernel_rfl) (by kernel_rfl) ?_
         exact rest7 ret77v h
        ·have h := h.2 hb
         refine srn 2 ⟨155, [e46_8 w, e46_1 w, s1 6 (.fn 86 [(⟨tI, ((w.length : Int) + (1 : Int))⟩ : Dat)]), e46_5, sp 9 9, e46_7, e46_4 l, e46_3 l, sI 24 v24, e46_21 l v24, sB 78 (decide ((l.getD (v24).toNat z3).1 = (5 : Int)))], [e46_0 l v24, e46_6 w, e46_2 all]⟩ (by kernel_rfl) rfl ?_
         refine withJoin (σ := LI) (fun s => (⟨155, [e46_8 w, e46_1 w, s1 6 (.fn 86 [(⟨tI, ((w.length : Int) + (1 : Int))⟩ : Dat)]), e46_5, e46_7, e46_4 l, e46_3 l, sI 24 v24], [hA 29 39 (.int .u32) s, e46_2 all]⟩ : St)) (fun s => VC46_k8 v24 all X1 s) (fun rv h => ?_) (fun rest8 => ?_)
         ·have h : VC46_k8 v24 all X1 rv := h
          unfold VC46_k8 at h
          exact rest7 rv h
         ·refine aw_cond (b := (decide ((l.getD (v24).toNat z3).1 = (5 : Int)))) (by kernel_rfl) (fun hb => ?_) (fun hb => ?_)
          ·have h := h.1 hb
           refine srn 2 ⟨155, [e46_8 w, e46_1 w, s1 6 (.fn 86 [(⟨tI, ((w.length : Int) + (1 : Int))⟩ : Dat)]), e46_5, sp 9 9, e46_7, e46_4 l, e46_3 l, sI 24 v24, e46_15 w, sI 81 (0 : Int)], [e46_0 l v24, e46_6 w, e46_2 all]⟩ (by kernel_rfl) rfl ?_
           refine withJoin (σ := LI) (fun s => (⟨155, [e46_8 w, e46_1 w, s1 6 (.fn 86 [(⟨tI, ((w.length : Int) + (1 : Int))⟩ : Dat)]), e46_5, e46_7, e46_4 l, e46_3 l, sI 24 v24], [hA 29 39 (.int .u32) s, e46_2 all]⟩ : St)) (fun s => VC46_k9 v24 all X1 s) (fun rv h => ?_) (fun rest9 => ?_)
           ·have h : VC46_k9 v24 all X1 rv := h
            unfold VC46_k9 at h
            exact rest8 rv h
           ·refine aw_block ?_
            refine aw_loop (σ := Int × LI) (fun s => (⟨155, [e46_8 w, e46_1 w, s1 6 (.fn 86 [(⟨tI, ((w.length : Int) + (1 : Int))⟩ : Dat)]), e46_5, sp 9 9, e46_7, e46_4 l, e46_3 l, sI 24 v24, e46_15 w, sI 81 s.1], [e46_0 l v24, hA 29 39 (.int .u32) s.2, e46_2 all]⟩ : St)) (fun s X => VC46_l4 l w v24 all X1 s.1 s.2 X) (s0 := ((0 : Int), (List.replicate (((w.length : Int) + (1 : Int))).toNat (0 : Int)))) (fun s X4 h => ?_) h
            obtain ⟨v81, rv⟩ := s
            have h : VC46_l4 l w v24 all X1 v81 rv X4 := h
            unfold VC46_l4 at h
            refine srn 1 ⟨155, [e46_8 w, e46_1 w, s1 6 (.fn 86 [(⟨tI, ((w.length : Int) + (1 : Int))⟩ : Dat)]), e46_5, sp 9 9, e46_7, e46_4 l, e46_3 l, sI 24 v24, e46_15 w, sI 81 v81, sB 82 (decide (v81 < ((w.length : Int) + (1 : Int))))], [e46_0 l v24, e46_11 rv, e46_2 all]⟩ (by kernel_rfl) rfl ?_
            refine aw_seq ?_
            refine aw_cond (b := (decide (v81 < ((w.length : Int) + (1 : Int))))) (by kernel_rfl) (fun hb => ?_) (fun hb => ?_)
            ·have h := h.1 hb
             refine aw_skip ?_
             refine thenQ_n ?_
             refine aw_seq ?_
             refine aw_block ?_
             refine srn 2 ⟨155, [e46_8 w, e46_1 w, s1 6 (.fn 86 [(⟨tI, ((w.length : Int) + (1 : Int))⟩ : Dat)]), e46_5, sp 9 9, e46_7, sI 14 v81, e46_4 l, e46_3 l, sI 24 v24, e46_15 w, sI 81 v81], [e46_0 l v24, e46_11 rv, e46_2 all]⟩ (by kernel_rfl) rfl ?_
             refine awd_begin [29] (by kernel_rfl) ?_
             obtain ⟨o1, o2, o3, o4, o5, h⟩ := h
             refine drq (by kernel_rfl) [0, 1, 2, 3, 4, 5, 6, 7, 8, 9, 10, 11, 12, 13, 14, 15, 16, 17, 18, 19] (ob := (Ts 5 (inIdx ((l.getD (v24).toNat z3).2.1) all.length ∧ Ts 2 (inIdx v81 (all.getD (((l.getD (v24).toNat z3).2.1).toNat) ([] : LI)).length ∧ Ts 4 (inIdx ((l.getD (v24).toNat z3).2.2) all.length ∧ Ts 2 (inIdx v81 (all.getD (((l.getD (v24).toNat z3).2.2).toNat) ([] : LI)).length ∧ Ts 2 (inIdx v81 rv.length ∧ True))))))) (done' := [19, 18, 17, 16, 15, 14, 13, 12, 11, 10, 9, 8, 7, 6, 5, 4, 3, 2, 1, 0]) (st' := (⟨155, [e46_8 w, e46_1 w, s1 6 (.fn 86 [(⟨tI, ((w.length : Int) + (1 : Int))⟩ : Dat)]), e46_5, sp 9 9, e46_7, e46_4 l, e46_3 l, sI 24 v24, e46_15 w, sI 81 v81, s1 102 (.pW (bOr .u32 ((all.getD (((l.getD (v24).toNat z3).2.1).toNat) ([] : LI)).getD (v81).toNat (0 : Int)) ((all.getD (((l.getD (v24).toNat z3).2.2).toNat) ([] : LI)).getD (v81).toNat (0 : Int)))), s1 103 (.el 29 ((v81).toNat) 1)], [e46_0 l v24, e46_11 rv, e46_2 all]⟩ : St)) (by kernel_rfl) (tsI 5 (⟨o1, tsI 2 (⟨o2, tsI 4 (⟨o3, tsI 2 (⟨o4, tsI 2 ⟨o5, trivial⟩⟩)⟩)⟩)⟩)) ?_
             refine awd_one (i := 20) (by kernel_rfl) ?_
             refine dsq (ob := True) (st' := (⟨155, [e46_8 w, e46_1 w, s1 6 (.fn 86 [(⟨tI, ((w.length : Int) + (1 : Int))⟩ : Dat)]), e46_5, sp 9 9, e46_7, e46_4 l, e46_3 l, sI 24 v24, e46_15 w, sI 81 v81], [e46_0 l v24, e46_10 rv v81 all l v24, e46_2 all]⟩ : St)) rfl (by kernel_rfl) trivial ?_
             refine awd_done (by kernel_rfl) ?_
             refine blockQ_n ?_
             refine thenQ_n ?_
             refine aw_region ?_
             obtain ⟨o1, h⟩ := h
             refine rq 2 (ob := (InR (v81 + (1 : Int)) ∧ Ts 1 True)) (st' := (⟨155, [e46_8 w, e46_1 w, s1 6 (.fn 86 [(⟨tI, ((w.length : Int) + (1 : Int))⟩ : Dat)]), e46_5, sp 9 9, e46_7, e46_4 l, e46_3 l, sI 24 v24, e46_15 w, sI 81 (v81 + (1 : Int))], [e46_0 l v24, e46_10 rv v81 all l v24, e46_2 all]⟩ : St)) (by kernel_rfl) (⟨o1, tsI 1 trivial⟩) ?_
             refine awl_nil ?_
             exact thenQ_n ⟨((v81 + (1 : Int)), (rv.set ((v81).toNat) (bOr .u32 ((all.getD (((l.getD (v24).toNat z3).2.1).toNat) ([] : LI)).getD (v81).toNat (0 : Int)) ((all.getD (((l.getD (v24).toNat z3).2.2).toNat) ([] : LI)).getD (v81).toNat (0 : Int))))), rfl, h⟩
            ·have h := h.2 hb
             refine cpr (st' := (⟨155, [e46_8 w, e46_1 w, s1 6 (.fn 86 [(⟨tI, ((w.length : Int) + (1 : Int))⟩ : Dat)]), e46_5, e46_7, e46_4 l, e46_3 l, sI 24 v24], [e46_11 rv, e46_2 all]⟩ : St)) (by kernel_rfl) ?_
             refine aw_exit ?_
             refine thenQ_x ?_
             refine thenQ_x ?_
             refine blockQ_hit ?_
             exact rest9 rv h
          ·have h := h.2 hb
           refine srn 2 ⟨155, [e46_8 w, e46_1 w, s1 6 (.fn 86 [(⟨tI, ((w.length : Int) + (1 : Int))⟩ : Dat)]), e46_5, sp 9 9, e46_7, e46_4 l, e46_3 l, sI 24 v24, sB 105 (decide ((l.getD (v24).toNat z3).1 = (6 : Int)))], [e46_0 l v24, e46_6 w, e46_2 all]⟩ (by kernel_rfl) rfl ?_
           refine withJoin (σ := LI) (fun s => (⟨155, [e46_8 w, e46_1 w, s1 6 (.fn 86 [(⟨tI, ((w.length : Int) + (1 : Int))⟩ : Dat)]), e46_5, e46_7, e46_4 l, e46_3 l, sI 24 v24], [hA 29 39 (.int .u32) s, e46_2 all]⟩ : St)) (fun s => VC46_k10 v24 all X1 s) (fun rv h => ?_) (fun rest10 => ?_)
           ·have h : VC46_k10 v24 all X1 rv := h
            unfold VC46_k10 at h
            exact rest8 rv h
           ·refine aw_cond (b := (decide ((l.getD (v24).toNat z3).1 = (6 : Int)))) (by kernel_rfl) (fun hb => ?_) (fun hb => ?_)
            ·have h := h.1 hb
             refine aw_seq ?_
             refine srn 2 ⟨155, [e46_8 w, e46_1 w, s1 6 (.fn 86 [(⟨tI, ((w.length : Int) + (1 : Int))⟩ : Dat)]), e46_5, sp 9 9, e46_7, e46_4 l, e46_3 l, sI 24 v24, e46_16 w, sI 108 (0 : Int)], [e46_0 l v24, e46_6 w, e46_2 all]⟩ (by kernel_rfl) rfl ?_
             refine withJoin (σ := LI) (fun s => (⟨155, [e46_8 w, e46_1 w, s1 6 (.fn 86 [(⟨tI, ((w.length : Int) + (1 : Int))⟩ : Dat)]), e46_5, sp 9 9, e46_7, e46_4 l, e46_3 l, sI 24 v24], [e46_0 l v24, hA 29 39 (.int .u32) s, e46_2 all]⟩ : St)) (fun s => VC46_k11 l w v24 all X1 s) (fun rv h => ?_) (fun rest13 => ?_)
             ·have h : VC46_k11 l w v24 all X1 rv := h
              unfold VC46_k11 at h
              refine thenQ_n ?_
              refine srn 2 ⟨155, [e46_8 w, e46_1 w, s1 6 (.fn 86 [(⟨tI, ((w.length : Int) + (1 : Int))⟩ : Dat)]), e46_5, sp 9 9, e46_7, e46_4 l, e46_3 l, sI 24 v24, e46_9 w, sI 118 (0 : Int)], [e46_0 l v24, e46_11 rv, e46_2 all]⟩ (by kernel_rfl) rfl ?_
              refine withJoin (σ := LI) (fun s => (⟨155, [e46_8 w, e46_1 w, s1 6 (.fn 86 [(⟨tI, ((w.length : Int) + (1 : Int))⟩ : Dat)]), e46_5, e46_7, e46_4 l, e46_3 l, sI 24 v24], [hA 29 39 (.int .u32) s, e46_2 all]⟩ : St)) (fun s => VC46_k12 v24 all X1 s) (fun rv2 h => ?_) (fun rest11 => ?_)
              ·have h : VC46_k12 v24 all X1 rv2 := h
               unfold VC46_k12 at h
               exact rest10 rv2 h
              ·refine aw_block ?_
               refine aw_loop (σ := Int × LI) (fun s => (⟨155, [e46_8 w, e46_1 w, s1 6 (.fn 86 [(⟨tI, ((w.length : Int) + (1 : Int))⟩ : Dat)]), e46_5, sp 9 9, e46_7, e46_4 l, e46_3 l, sI 24 v24, e46_9 w, sI 118 s.1], [e46_0 l v24, hA 29 39 (.int .u32) s.2, e46_2 all]⟩ : St)) (fun s X => VC46_l5 l w v24 all X1 s.1 s.2 X) (s0 := ((0 : Int), rv)) (fun s X5 h => ?_) h
               obtain ⟨v118, rv2⟩ := s
               have h : VC46_l5 l w v24 all X1 v118 rv2 X5 := h
               unfold VC46_l5 at h
               refine srn 1 ⟨155, [e46_8 w, e46_1 w, s1 6 (.fn 86 [(⟨tI, ((w.length : Int) + (1 : Int))⟩ : Dat)]), e46_5, sp 9 9, e46_7, e46_4 l, e46_3 l, sI 24 v24, e46_9 w, sI 118 v118, sB 119 (decide (v118 < ((w.length : Int) + (1 : Int))))], [e46_0 l v24, e46_19 rv2, e46_2 all]⟩ (by kernel_rfl) rfl ?_
               refine aw_seq ?_
               refine aw_cond (b := (decide (v118 < ((w.length : Int) + (1 : Int))))) (by kernel_rfl) (fun hb => ?_) (fun hb => ?_)
               ·have h := h.1 hb
                refine aw_skip ?_
                refine thenQ_n ?_
                refine aw_seq ?_
                refine aw_block ?_
                refine sr ?_
                obtain ⟨o1, h⟩ := h
                refine rq 7 (ob := (Ts 5 (inIdx ((l.getD (v24).toNat z3).2.1) all.length ∧ Ts 1 True))) (st' := (⟨155, [e46_8 w, e46_1 w, s1 6 (.fn 86 [(⟨tI, ((w.length : Int) + (1 : Int))⟩ : Dat)]), e46_5, sp 9 9, e46_7, e46_4 l, e46_3 l, sI 24 v24, e46_9 w, sI 118 v118, s1 120 (.fn 86 [(⟨tI, ((w.length : Int) + (1 : Int))⟩ : Dat)]), s1 121 (.own 29), s1 126 (.p (.sl (.int .u32)) (all.getD (((l.getD (v24).toNat z3).2.1).toNat) ([] : LI)))], [e46_0 l v24, e46_19 rv2, e46_2 all]⟩ : St)) (by kernel_rfl) (tsI 5 ⟨o1, tsI 1 trivial⟩) ?_
                refine awl_callOk (e := 39) (t := (.int .u32)) (l := [toV1 (.sl (.int .u32)) rv2, toV1 (.sl (.int .u32)) (all.getD (((l.getD (v24).toNat z3).2.1).toNat) ([] : LI))]) (cl := [.c (.ad tI ((w.length : Int) + (1 : Int)))]) true [.d (.sl (.int .u32)), .d (.sl (.int .u32))] [1, 5, 6, 7, 9, 10, 22, 23, 24, 117, 118, 127] [9, 29, 127, 5007] (fun (ret127v : LI) => Loop (σ := Int × LI) (fun s X => VC46_l6 w v118 X5 ret127v s.1 s.2 X) ((0 : Int), rv2)) (fun ret127v => (⟨155, [e46_8 w, e46_1 w, s1 6 (.fn 86 [(⟨tI, ((w.length : Int) + (1 : Int))⟩ : Dat)]), e46_5, sp 9 9, e46_7, e46_4 l, e46_3 l, sI 24 v24, e46_9 w, sI 118 v118, s1 127 (.own 127)], [e46_0 l v24, e46_19 rv2, e46_13 ret127v, e46_2 all]⟩ : St)) rfl rfl (by kernel_rfl) rfl (by kernel_rfl) Try.call86 (by kernel_rfl) (fun _ => rfl) (fun ret127v => by kernel_rfl) (link86 rv2 (all.getD (((l.getD (v24).toNat z3).2.1).toNat) ([] : LI)) ((w.length : Int) + (1 : Int)) _ h) (fun ret127v h => ?_)
                refine rqT 1 ⟨155, [e46_8 w, e46_1 w, s1 6 (.fn 86 [(⟨tI, ((w.length : Int) + (1 : Int))⟩ : Dat)]), e46_5, sp 9 9, e46_7, e46_22, e46_4 l, e46_3 l, sI 24 v24, e46_9 w, sI 118 v118], [e46_0 l v24, e46_19 rv2, e46_13 ret127v, e46_2 all]⟩ (by kernel_rfl) ?_
                refine nsr ?_
                refine rqT 2 ⟨155, [e46_8 w, e46_1 w, s1 6 (.fn 86 [(⟨tI, ((w.length : Int) + (1 : Int))⟩ : Dat)]), e46_5, sp 9 9, e46_7, e46_22, e46_4 l, e46_3 l, sI 24 v24, e46_9 w, sI 118 v118, e46_12 w, sI 129 (0 : Int)], [e46_0 l v24, e46_19 rv2, e46_13 ret127v, e46_2 all]⟩ (by kernel_rfl) ?_
                refine nn ?_
                refine withJoin (σ := LI) (fun s => (⟨155, [e46_8 w, e46_1 w, s1 6 (.fn 86 [(⟨tI, ((w.length : Int) + (1 : Int))⟩ : Dat)]), e46_5, sp 9 9, e46_7, e46_4 l, e46_3 l, sI 24 v24, e46_9 w, sI 118 v118], [e46_0 l v24, hA 29 39 (.int .u32) s, e46_2 all]⟩ : St)) (fun s => VC46_k13 v118 X5 s) (fun rv3 h => ?_) (fun rest12 => ?_)
                ·have h : VC46_k13 v118 X5 rv3 := h
                 unfold VC46_k13 at h
                 refine blockQ_n ?_
                 refine thenQ_n ?_
                 refine aw_region ?_
                 obtain ⟨o1, h⟩ := h
                 refine rq 2 (ob := (InR (v118 + (1 : Int)) ∧ Ts 1 True)) (st' := (⟨155, [e46_8 w, e46_1 w, s1 6 (.fn 86 [(⟨tI, ((w.length : Int) + (1 : Int))⟩ : Dat)]), e46_5, sp 9 9, e46_7, e46_4 l, e46_3 l, sI 24 v24, e46_9 w, sI 118 (v118 + (1 : Int))], [e46_0 l v24, e46_20 rv3, e46_2 all]⟩ : St)) (by kernel_rfl) (⟨o1, tsI 1 trivial⟩) ?_
                 refine awl_nil ?_
                 exact thenQ_n ⟨((v118 + (1 : Int)), rv3), rfl, h⟩
                ·refine aw_block ?_
                 refine aw_loop (σ := Int × LI) (fun s => (⟨155, [e46_8 w, e46_1 w, s1 6 (.fn 86 [(⟨tI, ((w.length : Int) + (1 : Int))⟩ : Dat)]), e46_5, sp 9 9, e46_7, e46_22, e46_4 l, e46_3 l, sI 24 v24, e46_9 w, sI 118 v118, e46_12 w, sI 129 s.1], [e46_0 l v24, hA 29 39 (.int .u32) s.2, e46_13 ret127v, e46_2 all]⟩ : St)) (fun s X => VC46_l6 w v118 X5 ret127v s.1 s.2 X) (s0 := ((0 : Int), rv2)) (fun s X6 h => ?_) h
                 obtain ⟨v129, rv3⟩ := s
                 have h : VC46_l6 w v118 X5 ret127v v129 rv3 X6 := h
                 unfold VC46_l6 at h
                 refine srn 1 ⟨155, [e46_8 w, e46_1 w, s1 6 (.fn 86 [(⟨tI, ((w.length : Int) + (1 : Int))⟩ : Dat)]), e46_5, sp 9 9, e46_7, e46_22, e46_4 l, e46_3 l, sI 24 v24, e46_9 w, sI 118 v118, e46_12 w, sI 129 v129, sB 130 (decide (v129 < ((w.length : Int) + (1 : Int))))], [e46_0 l v24, e46_20 rv3, e46_13 ret127v, e46_2 all]⟩ (by kernel_rfl) rfl ?_
                 refine aw_seq ?_
                 refine aw_cond (b := (decide (v129 < ((w.length : Int) + (1 : Int))))) (by kernel_rfl) (fun hb => ?_) (fun hb => ?_)
                 ·have h := h.1 hb
                  refine aw_skip ?_
                  refine thenQ_n ?_
                  refine aw_seq ?_
                  refine aw_block ?_
                  refine srn 2 ⟨155, [e46_8 w, e46_1 w, s1 6 (.fn 86 [(⟨tI, ((w.length : Int) + (1 : Int))⟩ : Dat)]), e46_5, sp 9 9, e46_7, e46_22, sI 17 v129, e46_4 l, e46_3 l, sI 24 v24, e46_9 w, sI 118 v118, e46_12 w, sI 129 v129], [e46_0 l v24, e46_20 rv3, e46_13 ret127v, e46_2 all]⟩ (by kernel_rfl) rfl ?_
                  refine awd_begin [29] (by kernel_rfl) ?_
                  obtain ⟨o1, o2, h⟩ := h
                  refine drq (by kernel_rfl) [0, 1, 2, 4, 5, 6, 7] (ob := (Ts 2 (inIdx v129 rv3.length ∧ Ts 2 (inIdx v129 ret127v.length ∧ Ts 1 True)))) (done' := [7, 6, 5, 4, 2, 1, 0]) (st' := (⟨155, [e46_8 w, e46_1 w, s1 6 (.fn 86 [(⟨tI, ((w.length : Int) + (1 : Int))⟩ : Dat)]), e46_5, sp 9 9, e46_7, e46_22, e46_4 l, e46_3 l, sI 24 v24, e46_9 w, sI 118 v118, e46_12 w, sI 129 v129, s1 132 (.own 29), sI 133 v129, s1 134 (.el 29 ((v129).toNat) 1), s1 139 (.pW (ret127v.getD ((v129).toNat) (0 : Int)))], [e46_0 l v24, e46_20 rv3, e46_13 ret127v, e46_2 all]⟩ : St)) (by kernel_rfl) (tsI 2 (⟨o1, tsI 2 ⟨o2, tsI 1 trivial⟩⟩)) ?_
                  refine awd_one (i := 3) (by kernel_rfl) ?_
                  refine dsq (ob := True) (st' := (⟨155, [e46_8 w, e46_1 w, s1 6 (.fn 86 [(⟨tI, ((w.length : Int) + (1 : Int))⟩ : Dat)]), e46_5, sp 9 9, e46_7, e46_22, e46_4 l, e46_3 l, sI 24 v24, e46_9 w, sI 118 v118, e46_12 w, sI 129 v129, s1 132 (.own 29), sI 133 v129, s1 135 (.pW (rv3.getD ((v129).toNat) (0 : Int))), s1 139 (.pW (ret127v.getD ((v129).toNat) (0 : Int)))], [e46_0 l v24, e46_20 rv3, e46_13 ret127v, e46_2 all]⟩ : St)) rfl (by kernel_rfl) trivial ?_
                  obtain ⟨o1, h⟩ := h
                  refine drq (by kernel_rfl) [8, 9] (ob := (Ts 1 (inIdx v129 rv3.length ∧ True))) (done' := [9, 8, 3, 7, 6, 5, 4, 2, 1, 0]) (st' := (⟨155, [e46_8 w, e46_1 w, s1 6 (.fn 86 [(⟨tI, ((w.length : Int) + (1 : Int))⟩ : Dat)]), e46_5, sp 9 9, e46_7, e46_22, e46_4 l, e46_3 l, sI 24 v24, e46_9 w, sI 118 v118, e46_12 w, sI 129 v129, s1 140 (.pW (bOr .u32 (rv3.getD ((v129).toNat) (0 : Int)) (ret127v.getD ((v129).toNat) (0 : Int)))), s1 141 (.el 29 ((v129).toNat) 1)], [e46_0 l v24, e46_20 rv3, e46_13 ret127v, e46_2 all]⟩ : St)) (by kernel_rfl) (tsI 1 ⟨o1, trivial⟩) ?_
                  refine awd_one (i := 10) (by kernel_rfl) ?_
                  refine dsq (ob := True) (st' := (⟨155, [e46_8 w, e46_1 w, s1 6 (.fn 86 [(⟨tI, ((w.length : Int) + (1 : Int))⟩ : Dat)]), e46_5, sp 9 9, e46_7, e46_22, e46_4 l, e46_3 l, sI 24 v24, e46_9 w, sI 118 v118, e46_12 w, sI 129 v129], [e46_0 l v24, e46_14 rv3 v129 ret127v, e46_13 ret127v, e46_2 all]⟩ : St)) rfl (by kernel_rfl) trivial ?_
                  refine awd_done (by kernel_rfl) ?_
                  refine blockQ_n ?_
                  refine thenQ_n ?_
                  refine aw_region ?_
                  obtain ⟨o1, h⟩ := h
                  refine rq 2 (ob := (InR (v129 + (1 : Int)) ∧ Ts 1 True)) (st' := (⟨155, [e46_8 w, e46_1 w, s1 6 (.fn 86 [(⟨tI, ((w.length : Int) + (1 : Int))⟩ : Dat)]), e46_5, sp 9 9, e46_7, e46_22, e46_4 l, e46_3 l, sI 24 v24, e46_9 w, sI 118 v118, e46_12 w, sI 129 (v129 + (1 : Int))], [e46_0 l v24, e46_14 rv3 v129 ret127v, e46_13 ret127v, e46_2 all]⟩ : St)) (by kernel_rfl) (⟨o1, tsI 1 trivial⟩) ?_
                  refine awl_nil ?_
                  exact thenQ_n ⟨((v129 + (1 : Int)), (rv3.set ((v129).toNat) (bOr .u32 (rv3.getD ((v129).toNat) (0 : Int)) (ret127v.getD ((v129).toNat) (0 : Int))))), rfl, h⟩
                 ·have h := h.2 hb
                  refine cpr (st' := (⟨155, [e46_8 w, e46_1 w, s1 6 (.fn 86 [(⟨tI, ((w.length : Int) + (1 : Int))⟩ : Dat)]), e46_5, sp 9 9, e46_7, e46_4 l, e46_3 l, sI 24 v24, e46_9 w, sI 118 v118], [e46_0 l v24, e46_20 rv3, e46_2 all]⟩ : St)) (by kernel_rfl) ?_
                  refine aw_exit ?_
                  refine thenQ_x ?_
                  refine thenQ_x ?_
                  refine blockQ_hit ?_
                  exact rest12 rv3 h
               ·have h := h.2 hb
                refine cpr (st' := (⟨155, [e46_8 w, e46_1 w, s1 6 (.fn 86 [(⟨tI, ((w.length : Int) + (1 : Int))⟩ : Dat)]), e46_5, e46_7, e46_4 l, e46_3 l, sI 24 v24], [e46_19 rv2, e46_2 all]⟩ : St)) (by kernel_rfl) ?_
                refine aw_exit ?_
                refine thenQ_x ?_
                refine thenQ_x ?_
                refine blockQ_hit ?_
                exact rest11 rv2 h
             ·refine aw_block ?_
              refine aw_loop (σ := Int × LI) (fun s => (⟨155, [e46_8 w, e46_1 w, s1 6 (.fn 86 [(⟨tI, ((w.length : Int) + (1 : Int))⟩ : Dat)]), e46_5, sp 9 9, e46_7, e46_4 l, e46_3 l, sI 24 v24, e46_16 w, sI 108 s.1], [e46_0 l v24, hA 29 39 (.int .u32) s.2, e46_2 all]⟩ : St)) (fun s X => VC46_l7 l w v24 all X1 s.1 s.2 X) (s0 := ((0 : Int), (List.replicate (((w.length : Int) + (1 : Int))).toNat (0 : Int)))) (fun s X7 h => ?_) h
              obtain ⟨v108, rv⟩ := s
              have h : VC46_l7 l w v24 all X1 v108 rv X7 := h
              unfold VC46_l7 at h
              refine srn 1 ⟨155, [e46_8 w, e46_1 w, s1 6 (.fn 86 [(⟨tI, ((w.length : Int) + (1 : Int))⟩ : Dat)]), e46_5, sp 9 9, e46_7, e46_4 l, e46_3 l, sI 24 v24, e46_16 w, sI 108 v108, sB 109 (decide (v108 < ((w.length : Int) + (1 : Int))))], [e46_0 l v24, e46_11 rv, e46_2 all]⟩ (by kernel_rfl) rfl ?_
              refine aw_seq ?_
              refine aw_cond (b := (decide (v108 < ((w.length : Int) + (1 : Int))))) (by kernel_rfl) (fun hb => ?_) (fun hb => ?_)
              ·have h := h.1 hb
               refine aw_skip ?_
               refine thenQ_n ?_
               refine aw_seq ?_
               refine aw_block ?_
               refine srn 2 ⟨155, [e46_8 w, e46_1 w, s1 6 (.fn 86 [(⟨tI, ((w.length : Int) + (1 : Int))⟩ : Dat)]), e46_5, sp 9 9, e46_7, sI 15 v108, e46_4 l, e46_3 l, sI 24 v24, e46_16 w, sI 108 v108], [e46_0 l v24, e46_11 rv, e46_2 all]⟩ (by kernel_rfl) rfl ?_
               refine aw_region ?_
               obtain ⟨o1, o2, h⟩ := h
               refine rq 6 (ob := (Ts 3 (0 ≤ v108 ∧ inIdx v108 rv.length ∧ Ts 1 True))) (st' := (⟨155, [e46_8 w, e46_1 w, s1 6 (.fn 86 [(⟨tI, ((w.length : Int) + (1 : Int))⟩ : Dat)]), e46_5, sp 9 9, e46_7, e46_4 l, e46_3 l, sI 24 v24, e46_16 w, sI 108 v108], [e46_0 l v24, hA 29 39 (.int .u32) (rv.set ((v108).toNat) (bShl .u32 (1 : Int) v108)), e46_2 all]⟩ : St)) (by kernel_rfl) (tsI 3 (⟨o1, ⟨o2, tsI 1 trivial⟩⟩)) ?_
               refine awl_nil ?_
               refine blockQ_n ?_
               refine thenQ_n ?_
               refine aw_region ?_
               obtain ⟨o1, h⟩ := h
               refine rq 2 (ob := (InR (v108 + (1 : Int)) ∧ Ts 1 True)) (st' := (⟨155, [e46_8 w, e46_1 w, s1 6 (.fn 86 [(⟨tI, ((w.length : Int) + (1 : Int))⟩ : Dat)]), e46_5, sp 9 9, e46_7, e46_4 l, e46_3 l, sI 24 v24, e46_16 w, sI 108 (v108 + (1 : Int))], [e46_0 l v24, hA 29 39 (.int .u32) (rv.set ((v108).toNat) (bShl .u32 (1 : Int) v108)), e46_2 all]⟩ : St)) (by kernel_rfl) (⟨o1, tsI 1 trivial⟩) ?_
               refine awl_nil ?_
               exact thenQ_n ⟨((v108 + (1 : Int)), (rv.set ((v108).toNat) (bShl .u32 (1 : Int) v108))), rfl, h⟩
              ·have h := h.2 hb
               refine cpr (st' := (⟨155, [e46_8 w, e46_1 w, s1 6 (.fn 86 [(⟨tI, ((w.length : Int) + (1 : Int))⟩ : Dat)]), e46_5, sp 9 9, e46_7, e46_4 l, e46_3 l, sI 24 v24], [e46_0 l v24, e46_11 rv, e46_2 all]⟩ : St)) (by kernel_rfl) ?_
               refine aw_exit ?_
               refine thenQ_x ?_
               refine thenQ_x ?_
               refine blockQ_hit ?_
               exact rest13 rv h
            ·have h := h.2 hb
             refine cpr (st' := (⟨155, [e46_8 w, e46_1 w, s1 6 (.fn 86 [(⟨tI, ((w.length : Int) + (1 : Int))⟩ : Dat)]), e46_5, e46_7, e46_4 l, e46_3 l, sI 24 v24], [e46_6 w, e46_2 all]⟩ : St)) (by kernel_rfl) ?_
             refine aw_skip ?_
             exact rest10 (List.replicate (((w.length : Int) + (1 : Int))).toNat (0 : Int)) h
  ·have h := h.2 hb
   refine cpr (st' := (⟨155, [e46_5], [e46_2 all]⟩ : St)) (by kernel_rfl) ?_
   refine aw_exit ?_
   refine thenQ_x ?_
   refine thenQ_x ?_
   refine blockQ_hit ?_
   exact rest1 all h
abbrev e23_0 (l : LN) : Nat × Path × AV := s1 1 (.p (.sl t3) l)
-- coppicer/sentence.Takes
def VC23 (k : Int) (l : LN) (w : LI) (K : Bool × Int → Prop) : Prop :=
  VC45 k l (fun (ret12v : Int) => (((!decide (ret12v = (0 : Int))) = true → K (false, ret12v)) ∧ ((!decide (ret12v = (0 : Int))) = false → VC40 k w (fun (ret18v : Int) => (((!decide (ret18v = (0 : Int))) = true → K (false, ret18v)) ∧ ((!decide (ret18v = (0 : Int))) = false → VC46 l w (fun (ret24v : LI) => (inIdx (0 : Int) ret24v.length ∧ VC44 (ret24v.getD ((0 : Int)).toNat (0 : Int)) (w.length : Int) (fun (ret29v : Bool) => K (ret29v, (0 : Int)))))))))))
set_option maxHeartbeats 4000000 in
theorem link23 (k : Int) (l : LN) (w : LI) (K : Bool × Int → Prop) (h : VC23 k l w K) : ACalls Try.prog 23 [toV1 tI k, toV1 (.sl t3) l, toV1 (.sl tI) w] (fun res => ∃ y, res = (fun y => [toV1 .bool y.1, toV1 tI y.2]) y ∧ K y) := by
 refine acalls_of_aw [.bool, tI] [.t 6, .t 7] Try.func23 rfl rfl rfl ?_
 unfold VC23 at h
 refine srn 2 ⟨30, [sI 0 k, e23_0 l, s1 2 (.pS w)], []⟩ (by kernel_rfl) rfl ?_
 refine aw_seq ?_
 refine sr ?_
 refine rqT 2 ⟨30, [sI 0 k, e23_0 l, s1 2 (.pS w), sI 10 k, s1 11 (.p (.sl t3) l)], []⟩ (by kernel_rfl) ?_
 refine lcq (d := 12) [.d tI, .d (.sl t3)] (fun ret12v => (⟨30, [sI 0 k, e23_0 l, s1 2 (.pS w), sI 12 ret12v], []⟩ : St)) (by kernel_rfl) Try.call45 (fun _ => by kernel_rfl) (link45 k l _ h) (fun ret12v h => ?_)
 refine rqT 1 ⟨30, [sI 0 k, e23_0 l, s1 2 (.pS w), sI 8 ret12v], []⟩ (by kernel_rfl) ?_
 refine nsr ?_
 refine rqT 2 ⟨30, [sI 0 k, e23_0 l, s1 2 (.pS w), sI 8 ret12v, sB 14 (!decide (ret12v = (0 : Int)))], []⟩ (by kernel_rfl) ?_
 refine nn ?_
 refine aw_cond (b := (!decide (ret12v = (0 : Int)))) (by kernel_rfl) (fun hb => ?_) (fun hb => ?_)
 ·have h := h.1 hb
  refine srn 3 ⟨30, [sB 6 false, sI 7 ret12v], []⟩ (by kernel_rfl) rfl ?_
  refine aw_ret ?_
  refine thenQ_r ?_
  exact retQ_r (ob := Ts 2 True) _ (by kernel_rfl) (tsI 2 trivial) h
 ·have h := h.2 hb
  refine aw_skip ?_
  refine thenQ_n ?_
  refine aw_seq ?_
  refine sr ?_
  refine rqT 2 ⟨30, [e23_0 l, s1 2 (.pS w), sI 16 k, s1 17 (.pS w)], []⟩ (by kernel_rfl) ?_
  refine lcq (d := 18) [.d tI, .d (.sl tI)] (fun ret18v => (⟨30, [e23_0 l, s1 2 (.pS w), sI 18 ret18v], []⟩ : St)) (by kernel_rfl) Try.call40 (fun _ => by kernel_rfl) (link40 k w _ h) (fun ret18v h => ?_)
  refine rqT 1 ⟨30, [e23_0 l, s1 2 (.pS w), sI 9 ret18v], []⟩ (by kernel_rfl) ?_
  refine nsr ?_
  refine rqT 2 ⟨30, [e23_0 l, s1 2 (.pS w), sI 9 ret18v, sB 20 (!decide (ret18v = (0 : Int)))], []⟩ (by kernel_rfl) ?_
  refine nn ?_
  refine aw_cond (b := (!decide (ret18v = (0 : Int)))) (by kernel_rfl) (fun hb => ?_) (fun hb => ?_)
  ·have h := h.1 hb
   refine srn 3 ⟨30, [sB 6 false, sI 7 ret18v], []⟩ (by kernel_rfl) rfl ?_
   refine aw_ret ?_
   refine thenQ_r ?_
   exact retQ_r (ob := Ts 2 True) _ (by kernel_rfl) (tsI 2 trivial) h
  ·have h := h.2 hb
   refine aw_skip ?_
   refine thenQ_n ?_
   refine sr ?_
   refine rqT 2 ⟨30, [s1 2 (.pS w), s1 22 (.p (.sl t3) l), s1 23 (.pS w)], []⟩ (by kernel_rfl) ?_
   refine lcq (d := 24) [.d (.sl t3), .d (.sl tI)] (fun ret24v => (⟨30, [s1 2 (.pS w), s1 24 (.p (.sl (.int .u32)) ret24v)], []⟩ : St)) (by kernel_rfl) Try.call46 (fun _ => by kernel_rfl) (link46 l w _ h) (fun ret24v h => ?_)
   obtain ⟨o1, h⟩ := h
   refine rq 4 (ob := (inIdx (0 : Int) ret24v.length ∧ Ts 3 True)) (st' := (⟨30, [s1 26 (.pW (ret24v.getD ((0 : Int)).toNat (0 : Int))), sI 28 (w.length : Int)], []⟩ : St)) (by kernel_rfl) (⟨o1, tsI 3 trivial⟩) ?_
   refine lcq (d := 29) [.d (.int .u32), .d tI] (fun ret29v => (⟨30, [sB 29 ret29v], []⟩ : St)) (by kernel_rfl) Try.call44 (fun _ => by kernel_rfl) (link44 (ret24v.getD ((0 : Int)).toNat (0 : Int)) (w.length : Int) _ h) (fun ret29v h => ?_)
   refine rqT 2 ⟨30, [sB 6 ret29v, sI 7 (0 : Int)], []⟩ (by kernel_rfl) ?_
   refine nn ?_
   refine aw_ret ?_
   exact retQ_r (ob := Ts 2 True) _ (by kernel_rfl) (tsI 2 trivial) h
abbrev e87_0 (l : LN) (v9 : Int) : Nat × Path × Con := hB 6 [.pI ((l.getD (v9).toNat z3).1), .pI ((l.getD (v9).toNat z3).2.1), .pI ((l.getD (v9).toNat z3).2.2)]
abbrev e87_1 (l : LN) : Nat × Path × AV := sI 8 (l.length : Int)
abbrev e87_2 (l : LN) : Nat × Path × AV := s1 7 (.p (.sl t3) l)
-- coppicer/coppicerref.Right
def VC87_k1 (K : Int → Prop) : Prop :=
  K (0 : Int)
def VC87_l1 (k : Int) (l : LN) (K : Int → Prop) (v9 : Int) (X1 : Int → Prop) : Prop :=
  (((decide (v9 < (l.length : Int))) = true → (inIdx v9 l.length ∧ ((((decide ((l.getD (v9).toNat z3).1 < (1 : Int))) || (decide ((6 : Int) < (l.getD (v9).toNat z3).1))) = true → K (6 : Int)) ∧ (((decide ((l.getD (v9).toNat z3).1 < (1 : Int))) || (decide ((6 : Int) < (l.getD (v9).toNat z3).1))) = false → ((((decide ((l.getD (v9).toNat z3).1 = (3 : Int))) && ((decide ((l.getD (v9).toNat z3).2.1 < (0 : Int))) || (decide (k ≤ (l.getD (v9).toNat z3).2.1)))) = true → K (2 : Int)) ∧ (((decide ((l.getD (v9).toNat z3).1 = (3 : Int))) && ((decide ((l.getD (v9).toNat z3).2.1 < (0 : Int))) || (decide (k ≤ (l.getD (v9).toNat z3).2.1)))) = false → ((((decide ((4 : Int) ≤ (l.getD (v9).toNat z3).1)) && ((decide ((l.getD (v9).toNat z3).2.1 < (0 : Int))) || (decide (v9 ≤ (l.getD (v9).toNat z3).2.1)))) = true → K (2 : Int)) ∧ (((decide ((4 : Int) ≤ (l.getD (v9).toNat z3).1)) && ((decide ((l.getD (v9).toNat z3).2.1 < (0 : Int))) || (decide (v9 ≤ (l.getD (v9).toNat z3).2.1)))) = false → (((((decide ((l.getD (v9).toNat z3).1 = (4 : Int))) || (decide ((l.getD (v9).toNat z3).1 = (5 : Int)))) && ((decide ((l.getD (v9).toNat z3).2.2 < (0 : Int))) || (decide (v9 ≤ (l.getD (v9).toNat z3).2.2)))) = true → K (2 : Int)) ∧ ((((decide ((l.getD (v9).toNat z3).1 = (4 : Int))) || (decide ((l.getD (v9).toNat z3).1 = (5 : Int)))) && ((decide ((l.getD (v9).toNat z3).2.2 < (0 : Int))) || (decide (v9 ≤ (l.getD (v9).toNat z3).2.2)))) = false → (InR (v9 + (1 : Int)) ∧ X1 (v9 + (1 : Int))))))))))))) ∧ ((decide (v9 < (l.length : Int))) = false → VC87_k1 K))
def VC87 (k : Int) (l : LN) (K : Int → Prop) : Prop :=
  Loop (σ := Int) (fun s X => VC87_l1 k l K s X) (0 : Int)
set_option maxHeartbeats 4000000 in
theorem link87 (k : Int) (l : LN) (K : Int → Prop) (h : VC87 k l K) : ACalls Try.prog 87 [toV1 tI k, toV1 (.sl t3) l] (fun res => ∃ y, res = (fun y => [toV1 tI y]) y ∧ K y) := by
 refine acalls_of_aw [tI] [.t 4] Try.func87 rfl rfl rfl ?_
 unfold VC87 at h
 refine srn 1 ⟨70, [sI 0 k, s1 1 (.p (.sl t3) l)], []⟩ (by kernel_rfl) rfl ?_
 refine aw_seq ?_
 refine srn 3 ⟨70, [sI 0 k, e87_2 l, e87_1 l, sI 9 (0 : Int)], []⟩ (by kernel_rfl) rfl ?_
 refine withJoin (σ := Unit) (fun s => (⟨70, [], []⟩ : St)) (fun s => VC87_k1 K) (fun s h => ?_) (fun rest1 => ?_)
 ·have h : VC87_k1 K := h
  unfold VC87_k1 at h
  refine thenQ_n ?_
  refine srn 1 ⟨70, [sI 4 (0 : Int)], []⟩ (by kernel_rfl) rfl ?_
  refine aw_ret ?_
  exact retQ_r (ob := Ts 1 True) _ (by kernel_rfl) (tsI 1 trivial) h
 ·refine aw_block ?_
  refine aw_loop (σ := Int) (fun s => (⟨70, [sI 0 k, e87_2 l, e87_1 l, sI 9 s], []⟩ : St)) (fun s X => VC87_l1 k l K s X) (s0 := (0 : Int)) (fun v9 X1 h => ?_) h
  have h : VC87_l1 k l K v9 X1 := h
  unfold VC87_l1 at h
  refine srn 1 ⟨70, [sI 0 k, e87_2 l, e87_1 l, sI 9 v9, sB 10 (decide (v9 < (l.length : Int)))], []⟩ (by kernel_rfl) rfl ?_
  refine aw_seq ?_
  refine aw_cond (b := (decide (v9 < (l.length : Int)))) (by kernel_rfl) (fun hb => ?_) (fun hb => ?_)
  ·have h := h.1 hb
   refine aw_skip ?_
   refine thenQ_n ?_
   refine aw_seq ?_
   refine aw_block ?_
   refine sr ?_
   obtain ⟨o1, h⟩ := h
   refine rq 6 (ob := (Ts 1 (inIdx v9 l.length ∧ Ts 4 True))) (st' := (⟨70, [sI 0 k, sI 5 v9, sp 6 6, e87_2 l, e87_1 l, sI 9 v9], [e87_0 l v9]⟩ : St)) (by kernel_rfl) (tsI 1 ⟨o1, tsI 4 trivial⟩) ?_
   refine nn ?_
   refine aw_seq ?_
   refine sr ?_
   refine rq 8 (ob := (Ts 4 (Ti 3 ((decide ((l.getD (v9).toNat z3).1 < (1 : Int))) = false → True) (Ts 1 True)))) (st' := (⟨70, [sI 0 k, sI 5 v9, sp 6 6, e87_2 l, e87_1 l, sI 9 v9, sB 21 ((decide ((l.getD (v9).toNat z3).1 < (1 : Int))) || (decide ((6 : Int) < (l.getD (v9).toNat z3).1)))], [e87_0 l v9]⟩ : St)) (by kernel_rfl) (tsI 4 (tiI 3 (fun _ => trivial) (tsI 1 trivial))) ?_
   refine nn ?_
   refine aw_cond (b := ((decide ((l.getD (v9).toNat z3).1 < (1 : Int))) || (decide ((6 : Int) < (l.getD (v9).toNat z3).1)))) (by kernel_rfl) (fun hb => ?_) (fun hb => ?_)
   ·have h := h.1 hb
    refine srn 1 ⟨70, [sI 4 (6 : Int)], []⟩ (by kernel_rfl) rfl ?_
    refine aw_ret ?_
    refine thenQ_r ?_
    refine blockQ_r ?_
    refine thenQ_r ?_
    refine thenQ_r ?_
    refine blockQ_r ?_
    refine thenQ_r ?_
    exact retQ_r (ob := Ts 1 True) _ (by kernel_rfl) (tsI 1 trivial) h
   ·have h := h.2 hb
    refine aw_skip ?_
    refine thenQ_n ?_
    refine aw_seq ?_
    refine sr ?_
    refine rq 14 (ob := (Ts 4 (Ti 4 ((decide ((l.getD (v9).toNat z3).1 = (3 : Int))) = true → True) (((decide ((l.getD (v9).toNat z3).1 = (3 : Int))) = true → ((decide ((l.getD (v9).toNat z3).2.1 < (0 : Int))) = false → True)) ∧ ((decide ((l.getD (v9).toNat z3).1 = (3 : Int))) = true → ((decide ((l.getD (v9).toNat z3).2.1 < (0 : Int))) = false → True)) ∧ ((decide ((l.getD (v9).toNat z3).1 = (3 : Int))) = true → ((decide ((l.getD (v9).toNat z3).2.1 < (0 : Int))) = false → True)) ∧ ((decide ((l.getD (v9).toNat z3).1 = (3 : Int))) = true → ((decide ((l.getD (v9).toNat z3).2.1 < (0 : Int))) = false → True)) ∧ ((decide ((l.getD (v9).toNat z3).1 = (3 : Int))) = true → True) ∧ Ts 1 True)))) (st' := (⟨70, [sI 0 k, sI 5 v9, sp 6 6, e87_2 l, e87_1 l, sI 9 v9, sB 35 ((decide ((l.getD (v9).toNat z3).1 = (3 : Int))) && ((decide ((l.getD (v9).toNat z3).2.1 < (0 : Int))) || (decide (k ≤ (l.getD (v9).toNat z3).2.1))))], [e87_0 l v9]⟩ : St)) (by kernel_rfl) (tsI 4 (tiI 4 (fun _ => trivial) (tiI 4 (fun _ _ => trivial) ⟨(fun _ => trivial), tsI 1 trivial⟩))) ?_
    refine nn ?_
    refine aw_cond (b := ((decide ((l.getD (v9).toNat z3).1 = (3 : Int))) && ((decide ((l.getD (v9).toNat z3).2.1 < (0 : Int))) || (decide (k ≤ (l.getD (v9).toNat z3).2.1))))) (by kernel_rfl) (fun hb => ?_) (fun hb => ?_)
    ·have h := h.1 hb
     refine srn 1 ⟨70, [sI 4 (2 : Int)], []⟩ (by kernel_rfl) rfl ?_
     refine aw_ret ?_
     refine thenQ_r ?_
     refine blockQ_r ?_
     refine thenQ_r ?_
     refine thenQ_r ?_
     refine blockQ_r ?_
     refine thenQ_r ?_
     exact retQ_r (ob := Ts 1 True) _ (by kernel_rfl) (tsI 1 trivial) h
    ·have h := h.2 hb
     refine aw_skip ?_
     refine thenQ_n ?_
     refine aw_seq ?_
     refine sr ?_
     refine rq 14 (ob := (Ts 4 (Ti 4 ((decide ((4 : Int) ≤ (l.getD (v9).toNat z3).1)) = true → True) (((decide ((4 : Int) ≤ (l.getD (v9).toNat z3).1)) = true → ((decide ((l.getD (v9).toNat z3).2.1 < (0 : Int))) = false → True)) ∧ ((decide ((4 : Int) ≤ (l.getD (v9).toNat z3).1)) = true → ((decide ((l.getD (v9).toNat z3).2.1 < (0 : Int))) = false → True)) ∧ ((decide ((4 : Int) ≤ (l.getD (v9).toNat z3).1)) = true → ((decide ((l.getD (v9).toNat z3).2.1 < (0 : Int))) = false → True)) ∧ ((decide ((4 : Int) ≤ (l.getD (v9).toNat z3).1)) = true → ((decide ((l.getD (v9).toNat z3).2.1 < (0 : Int))) = false → True)) ∧ ((decide ((4 : Int) ≤ (l.getD (v9).toNat z3).1)) = true → True) ∧ Ts 1 True)))) (st' := (⟨70, [sI 0 k, sI 5 v9, sp 6 6, e87_2 l, e87_1 l, sI 9 v9, sB 49 ((decide ((4 : Int) ≤ (l.getD (v9).toNat z3).1)) && ((decide ((l.getD (v9).toNat z3).2.1 < (0 : Int))) || (decide (v9 ≤ (l.getD (v9).toNat z3).2.1))))], [e87_0 l v9]⟩ : St)) (by kernel_rfl) (tsI 4 (tiI 4 (fun _ => trivial) (tiI 4 (fun _ _ => trivial) ⟨(fun _ => trivial), tsI 1 trivial⟩))) ?_
     refine nn ?_
     refine aw_cond (b := ((decide ((4 : Int) ≤ (l.getD (v9).toNat z3).1)) && ((decide ((l.getD (v9).toNat z3).2.1 < (0 : Int))) || (decide (v9 ≤ (l.getD (v9).toNat z3).2.1))))) (by kernel_rfl) (fun hb => ?_) (fun hb => ?_)
     ·have h := h.1 hb
      refine srn 1 ⟨70, [sI 4 (2 : Int)], []⟩ (by kernel_rfl) rfl ?_
      refine aw_ret ?_
      refine thenQ_r ?_
      refine blockQ_r ?_
      refine thenQ_r ?_
      refine thenQ_r ?_
      refine blockQ_r ?_
      refine thenQ_r ?_
      exact retQ_r (ob := Ts 1 True) _ (by kernel_rfl) (tsI 1 trivial) h
     ·have h := h.2 hb
      refine aw_skip ?_
      refine thenQ_n ?_
      refine sr ?_
      refine rq 19 (ob := (Ts 4 (Ti 3 ((decide ((l.getD (v9).toNat z3).1 = (4 : Int))) = false → True) (Ts 2 (Ti 4 (((decide ((l.getD (v9).toNat z3).1 = (4 : Int))) || (decide ((l.getD (v9).toNat z3).1 = (5 : Int)))) = true → True) ((((decide ((l.getD (v9).toNat z3).1 = (4 : Int))) || (decide ((l.getD (v9).toNat z3).1 = (5 : Int)))) = true → ((decide ((l.getD (v9).toNat z3).2.2 < (0 : Int))) = false → True)) ∧ (((decide ((l.getD (v9).toNat z3).1 = (4 : Int))) || (decide ((l.getD (v9).toNat z3).1 = (5 : Int)))) = true → ((decide ((l.getD (v9).toNat z3).2.2 < (0 : Int))) = false → True)) ∧ (((decide ((l.getD (v9).toNat z3).1 = (4 : Int))) || (decide ((l.getD (v9).toNat z3).1 = (5 : Int)))) = true → ((decide ((l.getD (v9).toNat z3).2.2 < (0 : Int))) = false → True)) ∧ (((decide ((l.getD (v9).toNat z3).1 = (4 : Int))) || (decide ((l.getD (v9).toNat z3).1 = (5 : Int)))) = true → ((decide ((l.getD (v9).toNat z3).2.2 < (0 : Int))) = false → True)) ∧ (((decide ((l.getD (v9).toNat z3).1 = (4 : Int))) || (decide ((l.getD (v9).toNat z3).1 = (5 : Int)))) = true → True) ∧ Ts 1 True)))))) (st' := (⟨70, [sI 0 k, e87_2 l, e87_1 l, sI 9 v9, sB 68 (((decide ((l.getD (v9).toNat z3).1 = (4 : Int))) || (decide ((l.getD (v9).toNat z3).1 = (5 : Int)))) && ((decide ((l.getD (v9).toNat z3).2.2 < (0 : Int))) || (decide (v9 ≤ (l.getD (v9).toNat z3).2.2))))], []⟩ : St)) (by kernel_rfl) (tsI 4 (tiI 3 (fun _ => trivial) (tsI 2 (tiI 4 (fun _ => trivial) (tiI 4 (fun _ _ => trivial) ⟨(fun _ => trivial), tsI 1 trivial⟩))))) ?_
      refine nn ?_
      refine aw_cond (b := (((decide ((l.getD (v9).toNat z3).1 = (4 : Int))) || (decide ((l.getD (v9).toNat z3).1 = (5 : Int)))) && ((decide ((l.getD (v9).toNat z3).2.2 < (0 : Int))) || (decide (v9 ≤ (l.getD (v9).toNat z3).2.2))))) (by kernel_rfl) (fun hb => ?_) (fun hb => ?_)
      ·have h := h.1 hb
       refine srn 1 ⟨70, [sI 4 (2 : Int)], []⟩ (by kernel_rfl) rfl ?_
       refine aw_ret ?_
       refine blockQ_r ?_
       refine thenQ_r ?_
       refine thenQ_r ?_
       refine blockQ_r ?_
       refine thenQ_r ?_
       exact retQ_r (ob := Ts 1 True) _ (by kernel_rfl) (tsI 1 trivial) h
      ·have h := h.2 hb
       refine aw_skip ?_
       refine blockQ_n ?_
       refine thenQ_n ?_
       refine aw_region ?_
       obtain ⟨o1, h⟩ := h
       refine rq 2 (ob := (InR (v9 + (1 : Int)) ∧ Ts 1 True)) (st' := (⟨70, [sI 0 k, e87_2 l, e87_1 l, sI 9 (v9 + (1 : Int))], []⟩ : St)) (by kernel_rfl) (⟨o1, tsI 1 trivial⟩) ?_
       refine awl_nil ?_
       exact thenQ_n ⟨(v9 + (1 : Int)), rfl, h⟩
  ·have h := h.2 hb
   refine cpr (st' := (⟨70, [], []⟩ : St)) (by kernel_rfl) ?_
   refine aw_exit ?_
   refine thenQ_x ?_
   refine thenQ_x ?_
   refine blockQ_hit ?_
   exact rest1 () h
-- coppicer/coppicerref.SentenceCheck
def VC47 (k : Int) (l : LN) (K : Int → Prop) : Prop :=
  ((((((decide (k < (1 : Int))) || (decide ((3 : Int) < k))) || (decide ((l.length : Int) = (0 : Int)))) || (decide ((9 : Int) < (l.length : Int)))) = true → K (1 : Int)) ∧ (((((decide (k < (1 : Int))) || (decide ((3 : Int) < k))) || (decide ((l.length : Int) = (0 : Int)))) || (decide ((9 : Int) < (l.length : Int)))) = false → VC87 k l (fun (ret23v : Int) => K ret23v)))
set_option maxHeartbeats 4000000 in
theorem link47 (k : Int) (l : LN) (K : Int → Prop) (h : VC47 k l K) : ACalls Try.prog 47 [toV1 tI k, toV1 (.sl t3) l] (fun res => ∃ y, res = (fun y => [toV1 tI y]) y ∧ K y) := by
 refine acalls_of_aw [tI] [.t 4] Try.func47 rfl rfl rfl ?_
 unfold VC47 at h
 refine srn 1 ⟨24, [sI 0 k, s1 1 (.p (.sl t3) l)], []⟩ (by kernel_rfl) rfl ?_
 refine aw_seq ?_
 refine sr ?_
 refine rq 16 (ob := (Ts 3 (Ti 2 ((decide (k < (1 : Int))) = false → True) (Ts 2 (Ti 3 (((decide (k < (1 : Int))) || (decide ((3 : Int) < k))) = false → True) (Ts 2 (Ti 3 ((((decide (k < (1 : Int))) || (decide ((3 : Int) < k))) || (decide ((l.length : Int) = (0 : Int)))) = false → True) (Ts 1 True)))))))) (st' := (⟨24, [sI 0 k, s1 1 (.p (.sl t3) l), sB 20 ((((decide (k < (1 : Int))) || (decide ((3 : Int) < k))) || (decide ((l.length : Int) = (0 : Int)))) || (decide ((9 : Int) < (l.length : Int))))], []⟩ : St)) (by kernel_rfl) (tsI 3 (tiI 2 (fun _ => trivial) (tsI 2 (tiI 3 (fun _ => trivial) (tsI 2 (tiI 3 (fun _ => trivial) (tsI 1 trivial))))))) ?_
 refine nn ?_
 refine aw_cond (b := ((((decide (k < (1 : Int))) || (decide ((3 : Int) < k))) || (decide ((l.length : Int) = (0 : Int)))) || (decide ((9 : Int) < (l.length : Int))))) (by kernel_rfl) (fun hb => ?_) (fun hb => ?_)
 ·have h := h.1 hb
  refine srn 1 ⟨24, [sI 4 (1 : Int)], []⟩ (by kernel_rfl) rfl ?_
  refine aw_ret ?_
  refine thenQ_r ?_
  exact retQ_r (ob := Ts 1 True) _ (by kernel_rfl) (tsI 1 trivial) h
 ·have h := h.2 hb
  refine aw_skip ?_
  refine thenQ_n ?_
  refine sr ?_
  refine rqT 2 ⟨24, [sI 21 k, s1 22 (.p (.sl t3) l)], []⟩ (by kernel_rfl) ?_
  refine lcq (d := 23) [.d tI, .d (.sl t3)] (fun ret23v => (⟨24, [sI 23 ret23v], []⟩ : St)) (by kernel_rfl) Try.call87 (fun _ => by kernel_rfl) (link87 k l _ h) (fun ret23v h => ?_)
  refine rqT 1 ⟨24, [sI 4 ret23v], []⟩ (by kernel_rfl) ?_
  refine nn ?_
  refine aw_ret ?_
  exact retQ_r (ob := Ts 1 True) _ (by kernel_rfl) (tsI 1 trivial) h
abbrev e16_0 (w : LI) : Nat × Path × AV := sI 11 (w.length : Int)
-- coppicer/coppicerref.WordCheck
def VC16_k1 (K : Int → Prop) : Prop :=
  K (0 : Int)
def VC16_l1 (k : Int) (w : LI) (K : Int → Prop) (v12 : Int) (X1 : Int → Prop) : Prop :=
  (((decide (v12 < (w.length : Int))) = true → (inIdx v12 w.length ∧ ((((decide ((w.getD (v12).toNat (0 : Int)) < (0 : Int))) || (decide (k ≤ (w.getD (v12).toNat (0 : Int))))) = true → K (2 : Int)) ∧ (((decide ((w.getD (v12).toNat (0 : Int)) < (0 : Int))) || (decide (k ≤ (w.getD (v12).toNat (0 : Int))))) = false → (InR (v12 + (1 : Int)) ∧ X1 (v12 + (1 : Int))))))) ∧ ((decide (v12 < (w.length : Int))) = false → VC16_k1 K))
def VC16 (k : Int) (w : LI) (K : Int → Prop) : Prop :=
  (((decide ((12 : Int) < (w.length : Int))) = true → K (1 : Int)) ∧ ((decide ((12 : Int) < (w.length : Int))) = false → Loop (σ := Int) (fun s X => VC16_l1 k w K s X) (0 : Int)))
set_option maxHeartbeats 4000000 in
theorem link16 (k : Int) (w : LI) (K : Int → Prop) (h : VC16 k w K) : ACalls Try.prog 16 [toV1 tI k, toV1 (.sl tI) w] (fun res => ∃ y, res = (fun y => [toV1 tI y]) y ∧ K y) := by
 refine acalls_of_aw [tI] [.t 4] Try.func16 rfl rfl rfl ?_
 unfold VC16 at h
 refine srn 1 ⟨24, [sI 0 k, s1 1 (.pS w)], []⟩ (by kernel_rfl) rfl ?_
 refine aw_seq ?_
 refine srn 3 ⟨24, [sI 0 k, s1 1 (.pS w), sB 9 (decide ((12 : Int) < (w.length : Int)))], []⟩ (by kernel_rfl) rfl ?_
 refine aw_cond (b := (decide ((12 : Int) < (w.length : Int)))) (by kernel_rfl) (fun hb => ?_) (fun hb => ?_)
 ·have h := h.1 hb
  refine srn 1 ⟨24, [sI 4 (1 : Int)], []⟩ (by kernel_rfl) rfl ?_
  refine aw_ret ?_
  refine thenQ_r ?_
  exact retQ_r (ob := Ts 1 True) _ (by kernel_rfl) (tsI 1 trivial) h
 ·have h := h.2 hb
  refine aw_skip ?_
  refine thenQ_n ?_
  refine aw_seq ?_
  refine srn 3 ⟨24, [sI 0 k, s1 10 (.pS w), e16_0 w, sI 12 (0 : Int)], []⟩ (by kernel_rfl) rfl ?_
  refine withJoin (σ := Unit) (fun s => (⟨24, [], []⟩ : St)) (fun s => VC16_k1 K) (fun s h => ?_) (fun rest1 => ?_)
  ·have h : VC16_k1 K := h
   unfold VC16_k1 at h
   refine thenQ_n ?_
   refine srn 1 ⟨24, [sI 4 (0 : Int)], []⟩ (by kernel_rfl) rfl ?_
   refine aw_ret ?_
   exact retQ_r (ob := Ts 1 True) _ (by kernel_rfl) (tsI 1 trivial) h
  ·refine aw_block ?_
   refine aw_loop (σ := Int) (fun s => (⟨24, [sI 0 k, s1 10 (.pS w), e16_0 w, sI 12 s], []⟩ : St)) (fun s X => VC16_l1 k w K s X) (s0 := (0 : Int)) (fun v12 X1 h => ?_) h
   have h : VC16_l1 k w K v12 X1 := h
   unfold VC16_l1 at h
   refine srn 1 ⟨24, [sI 0 k, s1 10 (.pS w), e16_0 w, sI 12 v12, sB 13 (decide (v12 < (w.length : Int)))], []⟩ (by kernel_rfl) rfl ?_
   refine aw_seq ?_
   refine aw_cond (b := (decide (v12 < (w.length : Int)))) (by kernel_rfl) (fun hb => ?_) (fun hb => ?_)
   ·have h := h.1 hb
    refine aw_skip ?_
    refine thenQ_n ?_
    refine aw_seq ?_
    refine aw_block ?_
    refine sr ?_
    obtain ⟨o1, h⟩ := h
    refine rq 3 (ob := (inIdx v12 w.length ∧ Ts 2 True)) (st' := (⟨24, [sI 0 k, sI 6 (w.getD (v12).toNat (0 : Int)), s1 10 (.pS w), e16_0 w, sI 12 v12], []⟩ : St)) (by kernel_rfl) (⟨o1, tsI 2 trivial⟩) ?_
    refine nsr ?_
    refine rq 7 (ob := (Ts 3 (Ti 3 ((decide ((w.getD (v12).toNat (0 : Int)) < (0 : Int))) = false → True) (Ts 1 True)))) (st' := (⟨24, [sI 0 k, s1 10 (.pS w), e16_0 w, sI 12 v12, sB 22 ((decide ((w.getD (v12).toNat (0 : Int)) < (0 : Int))) || (decide (k ≤ (w.getD (v12).toNat (0 : Int)))))], []⟩ : St)) (by kernel_rfl) (tsI 3 (tiI 3 (fun _ => trivial) (tsI 1 trivial))) ?_
    refine nn ?_
    refine aw_cond (b := ((decide ((w.getD (v12).toNat (0 : Int)) < (0 : Int))) || (decide (k ≤ (w.getD (v12).toNat (0 : Int)))))) (by kernel_rfl) (fun hb => ?_) (fun hb => ?_)
    ·have h := h.1 hb
     refine srn 1 ⟨24, [sI 4 (2 : Int)], []⟩ (by kernel_rfl) rfl ?_
     refine aw_ret ?_
     refine blockQ_r ?_
     refine thenQ_r ?_
     refine thenQ_r ?_
     refine blockQ_r ?_
     refine thenQ_r ?_
     exact retQ_r (ob := Ts 1 True) _ (by kernel_rfl) (tsI 1 trivial) h
    ·have h := h.2 hb
     refine aw_skip ?_
     refine blockQ_n ?_
     refine thenQ_n ?_
     refine aw_region ?_
     obtain ⟨o1, h⟩ := h
     refine rq 2 (ob := (InR (v12 + (1 : Int)) ∧ Ts 1 True)) (st' := (⟨24, [sI 0 k, s1 10 (.pS w), e16_0 w, sI 12 (v12 + (1 : Int))], []⟩ : St)) (by kernel_rfl) (⟨o1, tsI 1 trivial⟩) ?_
     refine awl_nil ?_
     exact thenQ_n ⟨(v12 + (1 : Int)), rfl, h⟩
   ·have h := h.2 hb
    refine cpr (st' := (⟨24, [], []⟩ : St)) (by kernel_rfl) ?_
    refine aw_exit ?_
    refine thenQ_x ?_
    refine thenQ_x ?_
    refine blockQ_hit ?_
    exact rest1 () h
-- coppicer/coppicerkeep.said
def VC24 (k : Int) (l : LN) (w : LI) (K : Bool → Prop) : Prop :=
  VC47 k l (fun (ret9v : Int) => gcall (α := Int) (decide (ret9v = (0 : Int))) (VC16 k w) (0 : Int) (fun (ret14v : Int) => K ((decide (ret9v = (0 : Int))) && (decide (ret14v = (0 : Int))))))
set_option maxHeartbeats 4000000 in
theorem link24 (k : Int) (l : LN) (w : LI) (K : Bool → Prop) (h : VC24 k l w K) : ACalls Try.prog 24 [toV1 tI k, toV1 (.sl t3) l, toV1 (.sl tI) w] (fun res => ∃ y, res = (fun y => [toV1 .bool y]) y ∧ K y) := by
 refine acalls_of_aw [.bool] [.t 6] Try.func24 rfl rfl rfl ?_
 unfold VC24 at h
 refine sr ?_
 refine rqT 1 ⟨17, [sI 0 k, s1 1 (.p (.sl t3) l), s1 2 (.pS w)], []⟩ (by kernel_rfl) ?_
 refine nsr ?_
 refine rqT 2 ⟨17, [sI 0 k, s1 2 (.pS w), sI 7 k, s1 8 (.p (.sl t3) l)], []⟩ (by kernel_rfl) ?_
 refine lcq (d := 9) [.d tI, .d (.sl t3)] (fun ret9v => (⟨17, [sI 0 k, s1 2 (.pS w), sI 9 ret9v], []⟩ : St)) (by kernel_rfl) Try.call47 (fun _ => by kernel_rfl) (link47 k l _ h) (fun ret9v h => ?_)
 refine rq 4 (ob := (Ts 2 (Ti 2 ((decide (ret9v = (0 : Int))) = true → True) True))) (st' := (⟨17, [sB 11 (decide (ret9v = (0 : Int))), (12, [(11, true)], .v (.c (.pI k))), (13, [(11, true)], .v (.c (.pS w)))], []⟩ : St)) (by kernel_rfl) (tsI 2 (tiI 2 (fun _ => trivial) trivial)) ?_
 refine awl_callk (p := [(11, true)]) (l := [toV1 tI k, toV1 (.sl tI) w]) (cl := []) false [.d tI, .d (.sl tI)] [11, 14] [] (fun (ret14v : Int) => K ((decide (ret9v = (0 : Int))) && (decide (ret14v = (0 : Int))))) (fun ret14v => [toV1 tI ret14v]) (fun ret14v => (⟨17, [sB 11 (decide (ret9v = (0 : Int))), (14, [(11, true)], .v (.c (.pI ret14v)))], []⟩ : St)) (by kernel_rfl) rfl (by kernel_rfl) rfl (by kernel_rfl) Try.call16 (by kernel_rfl) (fun ret14v => by kernel_rfl) (fun e => by cases e) (fun hg => link16 k w _ (by have := gcall_T h (show (decide (ret9v = (0 : Int))) = true from hg); exact this)) (fun hg => ⟨(0 : Int), by have := gcall_F h (show (decide (ret9v = (0 : Int))) = false from hg); exact this⟩) (fun ret14v h => ?_)
 refine rq 3 (ob := (((decide (ret9v = (0 : Int))) = true → True) ∧ Ts 2 True)) (st' := (⟨17, [sB 6 ((decide (ret9v = (0 : Int))) && (decide (ret14v = (0 : Int))))], []⟩ : St)) (by kernel_rfl) (⟨(fun _ => trivial), tsI 2 trivial⟩) ?_
 refine nn ?_
 refine aw_ret ?_
 exact retQ_r (ob := Ts 1 True) _ (by kernel_rfl) (tsI 1 trivial) h
-- coppicer/machine.Check$1
def VC83 (l : LI) (a1 : (Int × (Int × (LL × (Int × Int))))) (K : Bool → Prop) : Prop :=
  K (!decide ((l.length : Int) = a1.2.1))
set_option maxHeartbeats 4000000 in
theorem link83 (l : LI) (a1 : (Int × (Int × (LL × (Int × Int))))) (K : Bool → Prop) (h : VC83 l a1 K) : ACalls Try.prog 83 [toV1 (.sl tI) l, .c (.ad (.pr tI (.pr tI (.pr (.sl (.sl tI)) (.pr tI (.int .u32))))) a1)] (fun res => ∃ y, res = (fun y => [toV1 .bool y]) y ∧ K y) := by
 refine acalls_of_aw [.bool] [.t 3] Try.func83 rfl rfl rfl ?_
 unfold VC83 at h
 refine sr ?_
 refine rqT 1 ⟨9, [s1 0 (.pS l), s1 1 (.ad (.pr tI (.pr tI (.pr (.sl (.sl tI)) (.pr tI (.int .u32))))) a1)], []⟩ (by kernel_rfl) ?_
 refine nsr ?_
 refine rqT 6 ⟨9, [sB 3 (!decide ((l.length : Int) = a1.2.1))], []⟩ (by kernel_rfl) ?_
 refine nn ?_
 refine aw_ret ?_
 exact retQ_r (ob := Ts 1 True) _ (by kernel_rfl) (tsI 1 trivial) h
abbrev e100_0 (sv : LL) : Nat × Path × AV := s1 0 (.p (.sl (.sl tI)) sv)
abbrev e100_1 (sv : LL) : Nat × Path × AV := sI 7 (sv.length : Int)
-- slices.IndexFunc[[][]int,[]int]
def VC100_k1 (K : Int → Prop) : Prop :=
  K (-1 : Int)
def VC100_l1 (sv : LL) (F1 : LI → (Bool → Prop) → Prop) (K : Int → Prop) (v8 : Int) (X1 : Int → Prop) : Prop :=
  (((decide (v8 < (sv.length : Int))) = true → (inIdx v8 sv.length ∧ F1 (sv.getD (v8).toNat ([] : LI)) (fun (ret16v : Bool) => ((ret16v = true → K v8) ∧ (ret16v = false → (InR (v8 + (1 : Int)) ∧ X1 (v8 + (1 : Int)))))))) ∧ ((decide (v8 < (sv.length : Int))) = false → VC100_k1 K))
def VC100 (sv : LL) (F1 : LI → (Bool → Prop) → Prop) (K : Int → Prop) : Prop :=
  Loop (σ := Int) (fun s X => VC100_l1 sv F1 K s X) (0 : Int)
set_option maxHeartbeats 4000000 in
theorem link100 (sv : LL) (fv1 : FuncId) (cv1 : List Dat) (F1 : LI → (Bool → Prop) → Prop) (hF1 : FnIs Try.prog fv1 cv1 (fun (x : LI) => [toV1 (.sl tI) x]) (fun (y : Bool) => [toV1 .bool y]) F1) (K : Int → Prop) (h : VC100 sv F1 K) : ACalls Try.prog 100 [toV1 (.sl (.sl tI)) sv, .c (.fn fv1 cv1)] (fun res => ∃ y, res = (fun y => [toV1 tI y]) y ∧ K y) := by
 refine acalls_of_aw [tI] [.t 4] Try.func100 rfl rfl rfl ?_
 unfold VC100 at h
 refine srn 1 ⟨19, [e100_0 sv, s1 1 (.fn fv1 cv1)], []⟩ (by kernel_rfl) rfl ?_
 refine aw_seq ?_
 refine srn 3 ⟨19, [e100_0 sv, s1 1 (.fn fv1 cv1), e100_1 sv, sI 8 (0 : Int)], []⟩ (by kernel_rfl) rfl ?_
 refine withJoin (σ := Unit) (fun s => (⟨19, [], []⟩ : St)) (fun s => VC100_k1 K) (fun s h => ?_) (fun rest1 => ?_)
 ·have h : VC100_k1 K := h
  unfold VC100_k1 at h
  refine thenQ_n ?_
  refine srn 1 ⟨19, [sI 4 (-1 : Int)], []⟩ (by kernel_rfl) rfl ?_
  refine aw_ret ?_
  exact retQ_r (ob := Ts 1 True) _ (by kernel_rfl) (tsI 1 trivial) h
 ·refine aw_block ?_
  refine aw_loop (σ := Int) (fun s => (⟨19, [e100_0 sv, s1 1 (.fn fv1 cv1), e100_1 sv, sI 8 s], []⟩ : St)) (fun s X => VC100_l1 sv F1 K s X) (s0 := (0 : Int)) (fun v8 X1 h => ?_) h
  have h : VC100_l1 sv F1 K v8 X1 := h
  unfold VC100_l1 at h
  refine srn 1 ⟨19, [e100_0 sv, s1 1 (.fn fv1 cv1), e100_1 sv, sI 8 v8, sB 9 (decide (v8 < (sv.length : Int)))], []⟩ (by kernel_rfl) rfl ?_
  refine aw_seq ?_
  refine aw_cond (b := (decide (v8 < (sv.length : Int)))) (by kernel_rfl) (fun hb => ?_) (fun hb => ?_)
  ·have h := h.1 hb
   refine aw_skip ?_
   refine thenQ_n ?_
   refine aw_seq ?_
   refine aw_block ?_
   refine sr ?_
   refine rqT 2 ⟨19, [e100_0 sv, s1 1 (.fn fv1 cv1), sI 5 v8, e100_1 sv, sI 8 v8], []⟩ (by kernel_rfl) ?_
   refine nsr ?_
   obtain ⟨o1, h⟩ := h
   refine rq 5 (ob := (Ts 3 (inIdx v8 sv.length ∧ Ts 1 True))) (st' := (⟨19, [e100_0 sv, s1 1 (.fn fv1 cv1), sI 5 v8, e100_1 sv, sI 8 v8, s1 11 (.fn fv1 cv1), s1 15 (.pS (sv.getD (v8).toNat ([] : LI)))], []⟩ : St)) (by kernel_rfl) (tsI 3 ⟨o1, tsI 1 trivial⟩) ?_
   refine lcq (d := 16) [.d (.sl tI)] (fun ret16v => (⟨19, [e100_0 sv, s1 1 (.fn fv1 cv1), sI 5 v8, e100_1 sv, sI 8 v8, sB 16 ret16v], []⟩ : St)) (by kernel_rfl) hF1.1 (fun _ => by kernel_rfl) (hF1.2 (sv.getD (v8).toNat ([] : LI)) _ h) (fun ret16v h => ?_)
   refine nn ?_
   refine aw_cond (b := ret16v) (by kernel_rfl) (fun hb => ?_) (fun hb => ?_)
   ·have h := h.1 hb
    refine srn 2 ⟨19, [sI 4 v8], []⟩ (by kernel_rfl) rfl ?_
    refine aw_ret ?_
    refine blockQ_r ?_
    refine thenQ_r ?_
    refine thenQ_r ?_
    refine blockQ_r ?_
    refine thenQ_r ?_
    exact retQ_r (ob := Ts 1 True) _ (by kernel_rfl) (tsI 1 trivial) h
   ·have h := h.2 hb
    refine aw_skip ?_
    refine blockQ_n ?_
    refine thenQ_n ?_
    refine aw_region ?_
    obtain ⟨o1, h⟩ := h
    refine rq 2 (ob := (InR (v8 + (1 : Int)) ∧ Ts 1 True)) (st' := (⟨19, [e100_0 sv, s1 1 (.fn fv1 cv1), e100_1 sv, sI 8 (v8 + (1 : Int))], []⟩ : St)) (by kernel_rfl) (⟨o1, tsI 1 trivial⟩) ?_
    refine awl_nil ?_
    exact thenQ_n ⟨(v8 + (1 : Int)), rfl, h⟩
  ·have h := h.2 hb
   refine cpr (st' := (⟨19, [], []⟩ : St)) (by kernel_rfl) ?_
   refine aw_exit ?_
   refine thenQ_x ?_
   refine thenQ_x ?_
   refine blockQ_hit ?_
   exact rest1 () h
-- slices.ContainsFunc[[][]int,[]int]
def VC77 (sv : LL) (F1 : LI → (Bool → Prop) → Prop) (K : Bool → Prop) : Prop :=
  VC100 sv F1 (fun (ret7v : Int) => K (decide ((0 : Int) ≤ ret7v)))
set_option maxHeartbeats 4000000 in
theorem link77 (sv : LL) (fv1 : FuncId) (cv1 : List Dat) (F1 : LI → (Bool → Prop) → Prop) (hF1 : FnIs Try.prog fv1 cv1 (fun (x : LI) => [toV1 (.sl tI) x]) (fun (y : Bool) => [toV1 .bool y]) F1) (K : Bool → Prop) (h : VC77 sv F1 K) : ACalls Try.prog 77 [toV1 (.sl (.sl tI)) sv, .c (.fn fv1 cv1)] (fun res => ∃ y, res = (fun y => [toV1 .bool y]) y ∧ K y) := by
 refine acalls_of_aw [.bool] [.t 4] Try.func77 rfl rfl rfl ?_
 unfold VC77 at h
 refine sr ?_
 refine rqT 1 ⟨9, [s1 0 (.p (.sl (.sl tI)) sv), s1 1 (.fn fv1 cv1)], []⟩ (by kernel_rfl) ?_
 refine nsr ?_
 refine rqT 2 ⟨9, [s1 5 (.p (.sl (.sl tI)) sv), s1 6 (.fn fv1 cv1)], []⟩ (by kernel_rfl) ?_
 refine lcq (d := 7) [.d (.sl (.sl tI)), .fn] (fun ret7v => (⟨9, [sI 7 ret7v], []⟩ : St)) (by kernel_rfl) Try.call100 (fun _ => by kernel_rfl) (link100 sv fv1 cv1 F1 hF1 _ h) (fun ret7v h => ?_)
 refine rqT 2 ⟨9, [sB 4 (decide ((0 : Int) ≤ ret7v))], []⟩ (by kernel_rfl) ?_
 refine nn ?_
 refine aw_ret ?_
 exact retQ_r (ob := Ts 1 True) _ (by kernel_rfl) (tsI 1 trivial) h
-- coppicer/machine.Check$2
def VC84 (n : Int) (a1 : (Int × (Int × (LL × (Int × Int))))) (K : Bool → Prop) : Prop :=
  (InR (a1.1 - (1 : Int)) ∧ VC82 n (0 : Int) (a1.1 - (1 : Int)) (fun (ret8v : Bool) => K ret8v))
set_option maxHeartbeats 4000000 in
theorem link84 (n : Int) (a1 : (Int × (Int × (LL × (Int × Int))))) (K : Bool → Prop) (h : VC84 n a1 K) : ACalls Try.prog 84 [toV1 tI n, .c (.ad (.pr tI (.pr tI (.pr (.sl (.sl tI)) (.pr tI (.int .u32))))) a1)] (fun res => ∃ y, res = (fun y => [toV1 .bool y]) y ∧ K y) := by
 refine acalls_of_aw [.bool] [.t 3] Try.func84 rfl rfl rfl ?_
 unfold VC84 at h
 refine sr ?_
 refine rqT 1 ⟨9, [sI 0 n, s1 1 (.ad (.pr tI (.pr tI (.pr (.sl (.sl tI)) (.pr tI (.int .u32))))) a1)], []⟩ (by kernel_rfl) ?_
 refine nsr ?_
 obtain ⟨o1, h⟩ := h
 refine rq 4 (ob := (Ts 3 (InR (a1.1 - (1 : Int)) ∧ True))) (st' := (⟨9, [sI 4 n, sI 7 (a1.1 - (1 : Int))], []⟩ : St)) (by kernel_rfl) (tsI 3 ⟨o1, trivial⟩) ?_
 refine lcq (d := 8) [.d tI, .d tI, .d tI] (fun ret8v => (⟨9, [sB 8 ret8v], []⟩ : St)) (by kernel_rfl) Try.call82 (fun _ => by kernel_rfl) (link82 n (0 : Int) (a1.1 - (1 : Int)) _ h) (fun ret8v h => ?_)
 refine rqT 1 ⟨9, [sB 3 ret8v], []⟩ (by kernel_rfl) ?_
 refine nn ?_
 refine aw_ret ?_
 exact retQ_r (ob := Ts 1 True) _ (by kernel_rfl) (tsI 1 trivial) h
abbrev e43_0 (m : (Int × (Int × (LL × (Int × Int))))) : Nat × Path × AV := s1 1 (.ad (.pr tI (.pr tI (.pr (.sl (.sl tI)) (.pr tI (.int .u32))))) m)
abbrev e43_1 (m : (Int × (Int × (LL × (Int × Int))))) : Nat × Path × Con := hB 1 [.pI m.1, .pI m.2.1, .p (.sl (.sl tI)) m.2.2.1, .pI m.2.2.2.1, .pW m.2.2.2.2]
abbrev e43_2 (m : (Int × (Int × (LL × (Int × Int))))) : Nat × Path × AV := s1 32 (.p (.sl (.sl tI)) m.2.2.1)
abbrev e43_3 (m : (Int × (Int × (LL × (Int × Int))))) (v34 : Int) : Nat × Path × AV := sI 39 ((m.2.2.1.getD (v34).toNat ([] : LI)).length : Int)
abbrev e43_4 (m : (Int × (Int × (LL × (Int × Int))))) : Nat × Path × AV := sI 33 (m.2.2.1.length : Int)
abbrev e43_5 (m : (Int × (Int × (LL × (Int × Int))))) (v34 : Int) : Nat × Path × AV := s1 38 (.pS (m.2.2.1.getD (v34).toNat ([] : LI)))
abbrev e43_6 (m : (Int × (Int × (LL × (Int × Int))))) : Nat × Path × AV := (26, [(24, false)], .v (.c (.p (.sl (.sl tI)) m.2.2.1)))
abbrev e43_7 (m : (Int × (Int × (LL × (Int × Int))))) : Nat × Path × AV := sB 24 (!decide ((m.2.2.1.length : Int) = m.1))
-- coppicer/machine.Check
def VC43_k1 (m : (Int × (Int × (LL × (Int × Int))))) (K : Int → Prop) : Prop :=
  VC84 m.2.2.2.1 m (fun (ret53v : Bool) => (((!ret53v) = true → K (2 : Int)) ∧ ((!ret53v) = false → ((0 ≤ m.2.2.2.2 ∧ 0 ≤ m.1) ∧ (((!decide ((bShr .u32 m.2.2.2.2 m.1) = (0 : Int))) = true → K (4 : Int)) ∧ ((!decide ((bShr .u32 m.2.2.2.2 m.1) = (0 : Int))) = false → K (0 : Int)))))))
def VC43_k2 (v34 : Int) (X1 : Int → Prop) : Prop :=
  (InR (v34 + (1 : Int)) ∧ X1 (v34 + (1 : Int)))
def VC43_l2 (m : (Int × (Int × (LL × (Int × Int))))) (K : Int → Prop) (v34 : Int) (X1 : Int → Prop) (v40 : Int) (X2 : Int → Prop) : Prop :=
  (((decide (v40 < ((m.2.2.1.getD (v34).toNat ([] : LI)).length : Int))) = true → (inIdx v40 (m.2.2.1.getD (v34).toNat ([] : LI)).length ∧ VC84 ((m.2.2.1.getD (v34).toNat ([] : LI)).getD (v40).toNat (0 : Int)) m (fun (ret46v : Bool) => (((!ret46v) = true → K (2 : Int)) ∧ ((!ret46v) = false → (InR (v40 + (1 : Int)) ∧ X2 (v40 + (1 : Int)))))))) ∧ ((decide (v40 < ((m.2.2.1.getD (v34).toNat ([] : LI)).length : Int))) = false → VC43_k2 v34 X1))
def VC43_l1 (m : (Int × (Int × (LL × (Int × Int))))) (K : Int → Prop) (v34 : Int) (X1 : Int → Prop) : Prop :=
  (((decide (v34 < (m.2.2.1.length : Int))) = true → (inIdx v34 m.2.2.1.length ∧ Loop (σ := Int) (fun s X => VC43_l2 m K v34 X1 s X) (0 : Int))) ∧ ((decide (v34 < (m.2.2.1.length : Int))) = false → VC43_k1 m K))
def VC43 (m : (Int × (Int × (LL × (Int × Int))))) (K : Int → Prop) : Prop :=
  VC82 m.1 (1 : Int) (7 : Int) (fun (ret10v : Bool) => gcall (α := Bool) (!(!ret10v)) (VC82 m.2.1 (1 : Int) (3 : Int)) false (fun (ret15v : Bool) => ((((!ret10v) || (!ret15v)) = true → K (1 : Int)) ∧ (((!ret10v) || (!ret15v)) = false → gcall (α := Bool) (!(!decide ((m.2.2.1.length : Int) = m.1))) (VC77 m.2.2.1 (fun (x : LI) (K : Bool → Prop) => VC83 x m K)) false (fun (ret28v : Bool) => ((((!decide ((m.2.2.1.length : Int) = m.1)) || ret28v) = true → K (3 : Int)) ∧ (((!decide ((m.2.2.1.length : Int) = m.1)) || ret28v) = false → Loop (σ := Int) (fun s X => VC43_l1 m K s X) (0 : Int))))))))
set_option maxHeartbeats 4000000 in
theorem link43 (m : (Int × (Int × (LL × (Int × Int))))) (K : Int → Prop) (h : VC43 m K) : ACalls Try.prog 43 [toV1 (.pr tI (.pr tI (.pr (.sl (.sl tI)) (.pr tI (.int .u32))))) m] (fun res => ∃ y, res = (fun y => [toV1 tI y]) y ∧ K y) := by
 refine acalls_of_aw [tI] [.t 2] Try.func43 rfl rfl rfl ?_
 unfold VC43 at h
 refine srn 2 ⟨61, [sp 1 1], [e43_1 m]⟩ (by kernel_rfl) rfl ?_
 refine aw_seq ?_
 refine sr ?_
 refine rqT 2 ⟨61, [sp 1 1, sI 9 m.1], [e43_1 m]⟩ (by kernel_rfl) ?_
 refine lcq (d := 10) [.d tI, .d tI, .d tI] (fun ret10v => (⟨61, [sp 1 1, sB 10 ret10v], [e43_1 m]⟩ : St)) (by kernel_rfl) Try.call82 (fun _ => by kernel_rfl) (link82 m.1 (1 : Int) (7 : Int) _ h) (fun ret10v h => ?_)
 refine rq 4 (ob := (Ts 2 (Ti 2 ((!ret10v) = false → True) True))) (st' := (⟨61, [sp 1 1, sB 12 (!ret10v), (14, [(12, false)], .v (.c (.pI m.2.1)))], [e43_1 m]⟩ : St)) (by kernel_rfl) (tsI 2 (tiI 2 (fun _ => trivial) trivial)) ?_
 refine awl_callk (p := [(12, false)]) (l := [toV1 tI m.2.1, toV1 tI (1 : Int), toV1 tI (3 : Int)]) (cl := []) false [.d tI, .d tI, .d tI] [1, 12, 15] [1] (fun (ret15v : Bool) => ((((!ret10v) || (!ret15v)) = true → K (1 : Int)) ∧ (((!ret10v) || (!ret15v)) = false → gcall (α := Bool) (!(!decide ((m.2.2.1.length : Int) = m.1))) (VC77 m.2.2.1 (fun (x : LI) (K : Bool → Prop) => VC83 x m K)) false (fun (ret28v : Bool) => ((((!decide ((m.2.2.1.length : Int) = m.1)) || ret28v) = true → K (3 : Int)) ∧ (((!decide ((m.2.2.1.length : Int) = m.1)) || ret28v) = false → Loop (σ := Int) (fun s X => VC43_l1 m K s X) (0 : Int))))))) (fun ret15v => [toV1 .bool ret15v]) (fun ret15v => (⟨61, [sp 1 1, sB 12 (!ret10v), (15, [(12, false)], .v (.c (.pB ret15v)))], [e43_1 m]⟩ : St)) (by kernel_rfl) rfl (by kernel_rfl) rfl (by kernel_rfl) Try.call82 (by kernel_rfl) (fun ret15v => by kernel_rfl) (fun e => by cases e) (fun hg => link82 m.2.1 (1 : Int) (3 : Int) _ (by have := gcall_T h (show (!(!ret10v)) = true from hg); exact this)) (fun hg => ⟨false, by have := gcall_F h (show (!(!ret10v)) = false from hg); exact this⟩) (fun ret15v h => ?_)
 refine rq 2 (ob := (((!ret10v) = false → True) ∧ Ts 1 True)) (st' := (⟨61, [sp 1 1, sB 17 ((!ret10v) || (!ret15v))], [e43_1 m]⟩ : St)) (by kernel_rfl) (⟨(fun _ => trivial), tsI 1 trivial⟩) ?_
 refine nn ?_
 refine aw_cond (b := ((!ret10v) || (!ret15v))) (by kernel_rfl) (fun hb => ?_) (fun hb => ?_)
 ·have h := h.1 hb
  refine srn 1 ⟨61, [sI 2 (1 : Int)], []⟩ (by kernel_rfl) rfl ?_
  refine aw_ret ?_
  refine thenQ_r ?_
  exact retQ_r (ob := Ts 1 True) _ (by kernel_rfl) (tsI 1 trivial) h
 ·have h := h.2 hb
  refine aw_skip ?_
  refine thenQ_n ?_
  refine aw_seq ?_
  refine sr ?_
  refine rq 9 (ob := (Ts 7 (Ti 2 ((!decide ((m.2.2.1.length : Int) = m.1)) = false → True) True))) (st' := (⟨61, [sp 1 1, e43_7 m, e43_6 m], [e43_1 m]⟩ : St)) (by kernel_rfl) (tsI 7 (tiI 2 (fun _ => trivial) trivial)) ?_
  refine awl_conv [.freezeB 1 (.pr tI (.pr tI (.pr (.sl (.sl tI)) (.pr tI (.int .u32)))))] (st' := (⟨61, [e43_0 m, e43_7 m, e43_6 m], []⟩ : St)) (by kernel_rfl) ?_
  refine rq 1 (ob := (((!decide ((m.2.2.1.length : Int) = m.1)) = false → True) ∧ True)) (st' := (⟨61, [e43_0 m, e43_7 m, e43_6 m, (27, [(24, false)], .v (.c (.fn 83 [(⟨(.pr tI (.pr tI (.pr (.sl (.sl tI)) (.pr tI (.int .u32))))), m⟩ : Dat)])))], []⟩ : St)) (by kernel_rfl) (⟨(fun _ => trivial), trivial⟩) ?_
  refine awl_callk (p := [(24, false)]) (l := [toV1 (.sl (.sl tI)) m.2.2.1, .c (.fn 83 [(⟨(.pr tI (.pr tI (.pr (.sl (.sl tI)) (.pr tI (.int .u32))))), m⟩ : Dat)])]) (cl := []) false [.d (.sl (.sl tI)), .fn] [1, 24, 28] [] (fun (ret28v : Bool) => ((((!decide ((m.2.2.1.length : Int) = m.1)) || ret28v) = true → K (3 : Int)) ∧ (((!decide ((m.2.2.1.length : Int) = m.1)) || ret28v) = false → Loop (σ := Int) (fun s X => VC43_l1 m K s X) (0 : Int)))) (fun ret28v => [toV1 .bool ret28v]) (fun ret28v => (⟨61, [e43_0 m, e43_7 m, (28, [(24, false)], .v (.c (.pB ret28v)))], []⟩ : St)) (by kernel_rfl) rfl (by kernel_rfl) rfl (by kernel_rfl) Try.call77 (by kernel_rfl) (fun ret28v => by kernel_rfl) (fun e => by cases e) (fun hg => link77 m.2.2.1 83 [(⟨(.pr tI (.pr tI (.pr (.sl (.sl tI)) (.pr tI (.int .u32))))), m⟩ : Dat)] (fun (x : LI) (K : Bool → Prop) => VC83 x m K) ⟨Try.call83, fun x K h => link83 x m K h⟩ _ (by have := gcall_T h (show (!(!decide ((m.2.2.1.length : Int) = m.1))) = true from hg); exact this)) (fun hg => ⟨false, by have := gcall_F h (show (!(!decide ((m.2.2.1.length : Int) = m.1))) = false from hg); exact this⟩) (fun ret28v h => ?_)
  refine rqT 1 ⟨61, [e43_0 m, sB 29 ((!decide ((m.2.2.1.length : Int) = m.1)) || ret28v)], []⟩ (by kernel_rfl) ?_
  refine nn ?_
  refine aw_cond (b := ((!decide ((m.2.2.1.length : Int) = m.1)) || ret28v)) (by kernel_rfl) (fun hb => ?_) (fun hb => ?_)
  ·have h := h.1 hb
   refine srn 1 ⟨61, [sI 2 (3 : Int)], []⟩ (by kernel_rfl) rfl ?_
   refine aw_ret ?_
   refine thenQ_r ?_
   exact retQ_r (ob := Ts 1 True) _ (by kernel_rfl) (tsI 1 trivial) h
  ·have h := h.2 hb
   refine aw_skip ?_
   refine thenQ_n ?_
   refine srn 2 ⟨61, [e43_0 m, s1 3 (.fn 84 [(⟨(.pr tI (.pr tI (.pr (.sl (.sl tI)) (.pr tI (.int .u32))))), m⟩ : Dat)])], []⟩ (by kernel_rfl) rfl ?_
   refine aw_seq ?_
   refine srn 4 ⟨61, [e43_0 m, s1 3 (.fn 84 [(⟨(.pr tI (.pr tI (.pr (.sl (.sl tI)) (.pr tI (.int .u32))))), m⟩ : Dat)]), e43_2 m, e43_4 m, sI 34 (0 : Int)], []⟩ (by kernel_rfl) rfl ?_
   refine withJoin (σ := Unit) (fun s => (⟨61, [e43_0 m, s1 3 (.fn 84 [(⟨(.pr tI (.pr tI (.pr (.sl (.sl tI)) (.pr tI (.int .u32))))), m⟩ : Dat)])], []⟩ : St)) (fun s => VC43_k1 m K) (fun s h => ?_) (fun rest1 => ?_)
   ·have h : VC43_k1 m K := h
    unfold VC43_k1 at h
    refine thenQ_n ?_
    refine aw_seq ?_
    refine sr ?_
    refine rqT 3 ⟨61, [e43_0 m, s1 50 (.fn 84 [(⟨(.pr tI (.pr tI (.pr (.sl (.sl tI)) (.pr tI (.int .u32))))), m⟩ : Dat)]), sI 52 m.2.2.2.1], []⟩ (by kernel_rfl) ?_
    refine lcq (d := 53) [.d tI] (fun ret53v => (⟨61, [e43_0 m, sB 53 ret53v], []⟩ : St)) (by kernel_rfl) Try.call84 (fun _ => by kernel_rfl) (link84 m.2.2.2.1 m _ h) (fun ret53v h => ?_)
    refine rqT 1 ⟨61, [e43_0 m, sB 54 (!ret53v)], []⟩ (by kernel_rfl) ?_
    refine nn ?_
    refine aw_cond (b := (!ret53v)) (by kernel_rfl) (fun hb => ?_) (fun hb => ?_)
    ·have h := h.1 hb
     refine srn 1 ⟨61, [sI 2 (2 : Int)], []⟩ (by kernel_rfl) rfl ?_
     refine aw_ret ?_
     refine thenQ_r ?_
     exact retQ_r (ob := Ts 1 True) _ (by kernel_rfl) (tsI 1 trivial) h
    ·have h := h.2 hb
     refine aw_skip ?_
     refine thenQ_n ?_
     refine aw_seq ?_
     refine sr ?_
     obtain ⟨o1, h⟩ := h
     refine rq 6 (ob := (Ts 4 ((0 ≤ m.2.2.2.2 ∧ 0 ≤ m.1) ∧ Ts 1 True))) (st' := (⟨61, [sB 60 (!decide ((bShr .u32 m.2.2.2.2 m.1) = (0 : Int)))], []⟩ : St)) (by kernel_rfl) (tsI 4 ⟨o1, tsI 1 trivial⟩) ?_
     refine nn ?_
     refine aw_cond (b := (!decide ((bShr .u32 m.2.2.2.2 m.1) = (0 : Int)))) (by kernel_rfl) (fun hb => ?_) (fun hb => ?_)
     ·have h := h.1 hb
      refine srn 1 ⟨61, [sI 2 (4 : Int)], []⟩ (by kernel_rfl) rfl ?_
      refine aw_ret ?_
      refine thenQ_r ?_
      exact retQ_r (ob := Ts 1 True) _ (by kernel_rfl) (tsI 1 trivial) h
     ·have h := h.2 hb
      refine aw_skip ?_
      refine thenQ_n ?_
      refine srn 1 ⟨61, [sI 2 (0 : Int)], []⟩ (by kernel_rfl) rfl ?_
      refine aw_ret ?_
      exact retQ_r (ob := Ts 1 True) _ (by kernel_rfl) (tsI 1 trivial) h
   ·refine aw_block ?_
    refine aw_loop (σ := Int) (fun s => (⟨61, [e43_0 m, s1 3 (.fn 84 [(⟨(.pr tI (.pr tI (.pr (.sl (.sl tI)) (.pr tI (.int .u32))))), m⟩ : Dat)]), e43_2 m, e43_4 m, sI 34 s], []⟩ : St)) (fun s X => VC43_l1 m K s X) (s0 := (0 : Int)) (fun v34 X1 h => ?_) h
    have h : VC43_l1 m K v34 X1 := h
    unfold VC43_l1 at h
    refine srn 1 ⟨61, [e43_0 m, s1 3 (.fn 84 [(⟨(.pr tI (.pr tI (.pr (.sl (.sl tI)) (.pr tI (.int .u32))))), m⟩ : Dat)]), e43_2 m, e43_4 m, sI 34 v34, sB 35 (decide (v34 < (m.2.2.1.length : Int)))], []⟩ (by kernel_rfl) rfl ?_
    refine aw_seq ?_
    refine aw_cond (b := (decide (v34 < (m.2.2.1.length : Int)))) (by kernel_rfl) (fun hb => ?_) (fun hb => ?_)
    ·have h := h.1 hb
     refine aw_skip ?_
     refine thenQ_n ?_
     refine aw_seq ?_
     refine aw_block ?_
     refine sr ?_
     obtain ⟨o1, h⟩ := h
     refine rq 3 (ob := (inIdx v34 m.2.2.1.length ∧ Ts 2 True)) (st' := (⟨61, [e43_0 m, s1 3 (.fn 84 [(⟨(.pr tI (.pr tI (.pr (.sl (.sl tI)) (.pr tI (.int .u32))))), m⟩ : Dat)]), s1 5 (.pS (m.2.2.1.getD (v34).toNat ([] : LI))), e43_2 m, e43_4 m, sI 34 v34], []⟩ : St)) (by kernel_rfl) (⟨o1, tsI 2 trivial⟩) ?_
     refine nsr ?_
     refine rqT 3 ⟨61, [e43_0 m, s1 3 (.fn 84 [(⟨(.pr tI (.pr tI (.pr (.sl (.sl tI)) (.pr tI (.int .u32))))), m⟩ : Dat)]), e43_2 m, e43_4 m, sI 34 v34, e43_5 m v34, e43_3 m v34, sI 40 (0 : Int)], []⟩ (by kernel_rfl) ?_
     refine nn ?_
     refine withJoin (σ := Unit) (fun s => (⟨61, [e43_0 m, s1 3 (.fn 84 [(⟨(.pr tI (.pr tI (.pr (.sl (.sl tI)) (.pr tI (.int .u32))))), m⟩ : Dat)]), e43_2 m, e43_4 m, sI 34 v34], []⟩ : St)) (fun s => VC43_k2 v34 X1) (fun s h => ?_) (fun rest2 => ?_)
     ·have h : VC43_k2 v34 X1 := h
      unfold VC43_k2 at h
      refine blockQ_n ?_
      refine thenQ_n ?_
      refine aw_region ?_
      obtain ⟨o1, h⟩ := h
      refine rq 2 (ob := (InR (v34 + (1 : Int)) ∧ Ts 1 True)) (st' := (⟨61, [e43_0 m, s1 3 (.fn 84 [(⟨(.pr tI (.pr tI (.pr (.sl (.sl tI)) (.pr tI (.int .u32))))), m⟩ : Dat)]), e43_2 m, e43_4 m, sI 34 (v34 + (1 : Int))], []⟩ : St)) (by kernel_rfl) (⟨o1, tsI 1 trivial⟩) ?_
      refine awl_nil ?_
      exact thenQ_n ⟨(v34 + (1 : Int)), rfl, h⟩
     ·refine aw_block ?_
      refine aw_loop (σ := Int) (fun s => (⟨61, [e43_0 m, s1 3 (.fn 84 [(⟨(.pr tI (.pr tI (.pr (.sl (.sl tI)) (.pr tI (.int .u32))))), m⟩ : Dat)]), e43_2 m, e43_4 m, sI 34 v34, e43_5 m v34, e43_3 m v34, sI 40 s], []⟩ : St)) (fun s X => VC43_l2 m K v34 X1 s X) (s0 := (0 : Int)) (fun v40 X2 h => ?_) h
      have h : VC43_l2 m K v34 X1 v40 X2 := h
      unfold VC43_l2 at h
      refine srn 1 ⟨61, [e43_0 m, s1 3 (.fn 84 [(⟨(.pr tI (.pr tI (.pr (.sl (.sl tI)) (.pr tI (.int .u32))))), m⟩ : Dat)]), e43_2 m, e43_4 m, sI 34 v34, e43_5 m v34, e43_3 m v34, sI 40 v40, sB 41 (decide (v40 < ((m.2.2.1.getD (v34).toNat ([] : LI)).length : Int)))], []⟩ (by kernel_rfl) rfl ?_
      refine aw_seq ?_
      refine aw_cond (b := (decide (v40 < ((m.2.2.1.getD (v34).toNat ([] : LI)).length : Int)))) (by kernel_rfl) (fun hb => ?_) (fun hb => ?_)
      ·have h := h.1 hb
       refine aw_skip ?_
       refine thenQ_n ?_
       refine aw_seq ?_
       refine aw_block ?_
       refine sr ?_
       obtain ⟨o1, h⟩ := h
       refine rq 3 (ob := (inIdx v40 (m.2.2.1.getD (v34).toNat ([] : LI)).length ∧ Ts 2 True)) (st' := (⟨61, [e43_0 m, s1 3 (.fn 84 [(⟨(.pr tI (.pr tI (.pr (.sl (.sl tI)) (.pr tI (.int .u32))))), m⟩ : Dat)]), sI 7 ((m.2.2.1.getD (v34).toNat ([] : LI)).getD (v40).toNat (0 : Int)), e43_2 m, e43_4 m, sI 34 v34, e43_5 m v34, e43_3 m v34, sI 40 v40], []⟩ : St)) (by kernel_rfl) (⟨o1, tsI 2 trivial⟩) ?_
       refine nsr ?_
       refine rqT 2 ⟨61, [e43_0 m, s1 3 (.fn 84 [(⟨(.pr tI (.pr tI (.pr (.sl (.sl tI)) (.pr tI (.int .u32))))), m⟩ : Dat)]), e43_2 m, e43_4 m, sI 34 v34, e43_5 m v34, e43_3 m v34, sI 40 v40, s1 44 (.fn 84 [(⟨(.pr tI (.pr tI (.pr (.sl (.sl tI)) (.pr tI (.int .u32))))), m⟩ : Dat)]), sI 45 ((m.2.2.1.getD (v34).toNat ([] : LI)).getD (v40).toNat (0 : Int))], []⟩ (by kernel_rfl) ?_
       refine lcq (d := 46) [.d tI] (fun ret46v => (⟨61, [e43_0 m, s1 3 (.fn 84 [(⟨(.pr tI (.pr tI (.pr (.sl (.sl tI)) (.pr tI (.int .u32))))), m⟩ : Dat)]), e43_2 m, e43_4 m, sI 34 v34, e43_5 m v34, e43_3 m v34, sI 40 v40, sB 46 ret46v], []⟩ : St)) (by kernel_rfl) Try.call84 (fun _ => by kernel_rfl) (link84 ((m.2.2.1.getD (v34).toNat ([] : LI)).getD (v40).toNat (0 : Int)) m _ h) (fun ret46v h => ?_)
       refine rqT 1 ⟨61, [e43_0 m, s1 3 (.fn 84 [(⟨(.pr tI (.pr tI (.pr (.sl (.sl tI)) (.pr tI (.int .u32))))), m⟩ : Dat)]), e43_2 m, e43_4 m, sI 34 v34, e43_5 m v34, e43_3 m v34, sI 40 v40, sB 47 (!ret46v)], []⟩ (by kernel_rfl) ?_
       refine nn ?_
       refine aw_cond (b := (!ret46v)) (by kernel_rfl) (fun hb => ?_) (fun hb => ?_)
       ·have h := h.1 hb
        refine srn 1 ⟨61, [sI 2 (2 : Int)], []⟩ (by kernel_rfl) rfl ?_
        refine aw_ret ?_
        refine blockQ_r ?_
        refine thenQ_r ?_
        refine thenQ_r ?_
        refine blockQ_r ?_
        refine blockQ_r ?_
        refine thenQ_r ?_
        refine thenQ_r ?_
        refine blockQ_r ?_
        refine thenQ_r ?_
        exact retQ_r (ob := Ts 1 True) _ (by kernel_rfl) (tsI 1 trivial) h
       ·have h := h.2 hb
        refine aw_skip ?_
        refine blockQ_n ?_
        refine thenQ_n ?_
        refine aw_region ?_
        obtain ⟨o1, h⟩ := h
        refine rq 2 (ob := (InR (v40 + (1 : Int)) ∧ Ts 1 True)) (st' := (⟨61, [e43_0 m, s1 3 (.fn 84 [(⟨(.pr tI (.pr tI (.pr (.sl (.sl tI)) (.pr tI (.int .u32))))), m⟩ : Dat)]), e43_2 m, e43_4 m, sI 34 v34, e43_5 m v34, e43_3 m v34, sI 40 (v40 + (1 : Int))], []⟩ : St)) (by kernel_rfl) (⟨o1, tsI 1 trivial⟩) ?_
        refine awl_nil ?_
        exact thenQ_n ⟨(v40 + (1 : Int)), rfl, h⟩
      ·have h := h.2 hb
       refine cpr (st' := (⟨61, [e43_0 m, s1 3 (.fn 84 [(⟨(.pr tI (.pr tI (.pr (.sl (.sl tI)) (.pr tI (.int .u32))))), m⟩ : Dat)]), e43_2 m, e43_4 m, sI 34 v34], []⟩ : St)) (by kernel_rfl) ?_
       refine aw_exit ?_
       refine thenQ_x ?_
       refine thenQ_x ?_
       refine blockQ_hit ?_
       exact rest2 () h
    ·have h := h.2 hb
     refine cpr (st' := (⟨61, [e43_0 m, s1 3 (.fn 84 [(⟨(.pr tI (.pr tI (.pr (.sl (.sl tI)) (.pr tI (.int .u32))))), m⟩ : Dat)])], []⟩ : St)) (by kernel_rfl) ?_
     refine aw_exit ?_
     refine thenQ_x ?_
     refine thenQ_x ?_
     refine blockQ_hit ?_
     exact rest1 () h
abbrev e22_0 (m : (Int × (Int × (LL × (Int × Int))))) : Nat × Path × Con := hB 2 [.pI m.1, .pI m.2.1, .p (.sl (.sl tI)) m.2.2.1, .pI m.2.2.2.1, .pW m.2.2.2.2]
abbrev e22_1 (w : LI) : Nat × Path × AV := sI 27 (w.length : Int)
-- coppicer/machine.Run
def VC22_k1 (m : (Int × (Int × (LL × (Int × Int))))) (K : Int × Bool × Int → Prop) (atv : Int) : Prop :=
  VC44 m.2.2.2.2 atv (fun (ret45v : Bool) => K (atv, ret45v, (0 : Int)))
def VC22_l1 (m : (Int × (Int × (LL × (Int × Int))))) (w : LI) (K : Int × Bool × Int → Prop) (atv : Int) (v28 : Int) (X1 : Int × Int → Prop) : Prop :=
  (((decide (v28 < (w.length : Int))) = true → (inIdx v28 w.length ∧ (inIdx atv m.2.2.1.length ∧ inIdx (w.getD (v28).toNat (0 : Int)) (m.2.2.1.getD (atv).toNat ([] : LI)).length ∧ (InR (v28 + (1 : Int)) ∧ X1 (((m.2.2.1.getD (atv).toNat ([] : LI)).getD ((w.getD (v28).toNat (0 : Int))).toNat (0 : Int)), (v28 + (1 : Int))))))) ∧ ((decide (v28 < (w.length : Int))) = false → VC22_k1 m K atv))
def VC22 (m : (Int × (Int × (LL × (Int × Int))))) (w : LI) (K : Int × Bool × Int → Prop) : Prop :=
  VC43 m (fun (ret13v : Int) => (((!decide (ret13v = (0 : Int))) = true → K ((0 : Int), false, ret13v)) ∧ ((!decide (ret13v = (0 : Int))) = false → VC40 m.2.1 w (fun (ret20v : Int) => (((!decide (ret20v = (0 : Int))) = true → K ((0 : Int), false, ret20v)) ∧ ((!decide (ret20v = (0 : Int))) = false → Loop (σ := Int × Int) (fun s X => VC22_l1 m w K s.1 s.2 X) (m.2.2.2.1, (0 : Int))))))))
set_option maxHeartbeats 4000000 in
theorem link22 (m : (Int × (Int × (LL × (Int × Int))))) (w : LI) (K : Int × Bool × Int → Prop) (h : VC22 m w K) : ACalls Try.prog 22 [toV1 (.pr tI (.pr tI (.pr (.sl (.sl tI)) (.pr tI (.int .u32))))) m, toV1 (.sl tI) w] (fun res => ∃ y, res = (fun y => [toV1 tI y.1, toV1 .bool y.2.1, toV1 tI y.2.2]) y ∧ K y) := by
 refine acalls_of_aw [tI, .bool, tI] [.t 4, .t 5, .t 6] Try.func22 rfl rfl rfl ?_
 unfold VC22 at h
 refine srn 4 ⟨46, [s1 1 (.pS w), sp 2 2], [e22_0 m]⟩ (by kernel_rfl) rfl ?_
 refine aw_seq ?_
 refine sr ?_
 refine rqT 1 ⟨46, [s1 1 (.pS w), sp 2 2, sA 12 [.pI m.1, .pI m.2.1, .p (.sl (.sl tI)) m.2.2.1, .pI m.2.2.2.1, .pW m.2.2.2.2]], [e22_0 m]⟩ (by kernel_rfl) ?_
 refine lcq (d := 13) [.d (.pr tI (.pr tI (.pr (.sl (.sl tI)) (.pr tI (.int .u32)))))] (fun ret13v => (⟨46, [s1 1 (.pS w), sp 2 2, sI 13 ret13v], [e22_0 m]⟩ : St)) (by kernel_rfl) Try.call43 (fun _ => by kernel_rfl) (link43 m _ h) (fun ret13v h => ?_)
 refine rqT 1 ⟨46, [s1 1 (.pS w), sp 2 2, sI 7 ret13v], [e22_0 m]⟩ (by kernel_rfl) ?_
 refine nsr ?_
 refine rqT 2 ⟨46, [s1 1 (.pS w), sp 2 2, sI 7 ret13v, sB 15 (!decide (ret13v = (0 : Int)))], [e22_0 m]⟩ (by kernel_rfl) ?_
 refine nn ?_
 refine aw_cond (b := (!decide (ret13v = (0 : Int)))) (by kernel_rfl) (fun hb => ?_) (fun hb => ?_)
 ·have h := h.1 hb
  refine srn 4 ⟨46, [sI 4 (0 : Int), sB 5 false, sI 6 ret13v], []⟩ (by kernel_rfl) rfl ?_
  refine aw_ret ?_
  refine thenQ_r ?_
  exact retQ_r (ob := Ts 3 True) _ (by kernel_rfl) (tsI 3 trivial) h
 ·have h := h.2 hb
  refine aw_skip ?_
  refine thenQ_n ?_
  refine aw_seq ?_
  refine sr ?_
  refine rqT 3 ⟨46, [s1 1 (.pS w), sp 2 2, sI 18 m.2.1, s1 19 (.pS w)], [e22_0 m]⟩ (by kernel_rfl) ?_
  refine lcq (d := 20) [.d tI, .d (.sl tI)] (fun ret20v => (⟨46, [s1 1 (.pS w), sp 2 2, sI 20 ret20v], [e22_0 m]⟩ : St)) (by kernel_rfl) Try.call40 (fun _ => by kernel_rfl) (link40 m.2.1 w _ h) (fun ret20v h => ?_)
  refine rqT 1 ⟨46, [s1 1 (.pS w), sp 2 2, sI 8 ret20v], [e22_0 m]⟩ (by kernel_rfl) ?_
  refine nsr ?_
  refine rqT 2 ⟨46, [s1 1 (.pS w), sp 2 2, sI 8 ret20v, sB 22 (!decide (ret20v = (0 : Int)))], [e22_0 m]⟩ (by kernel_rfl) ?_
  refine nn ?_
  refine aw_cond (b := (!decide (ret20v = (0 : Int)))) (by kernel_rfl) (fun hb => ?_) (fun hb => ?_)
  ·have h := h.1 hb
   refine srn 4 ⟨46, [sI 4 (0 : Int), sB 5 false, sI 6 ret20v], []⟩ (by kernel_rfl) rfl ?_
   refine aw_ret ?_
   refine thenQ_r ?_
   exact retQ_r (ob := Ts 3 True) _ (by kernel_rfl) (tsI 3 trivial) h
  ·have h := h.2 hb
   refine aw_skip ?_
   refine thenQ_n ?_
   refine srn 3 ⟨46, [s1 1 (.pS w), sp 2 2, sI 9 m.2.2.2.1], [e22_0 m]⟩ (by kernel_rfl) rfl ?_
   refine aw_seq ?_
   refine srn 3 ⟨46, [sp 2 2, sI 9 m.2.2.2.1, s1 26 (.pS w), e22_1 w, sI 28 (0 : Int)], [e22_0 m]⟩ (by kernel_rfl) rfl ?_
   refine withJoin (σ := Int) (fun s => (⟨46, [sp 2 2, sI 9 s], [e22_0 m]⟩ : St)) (fun s => VC22_k1 m K s) (fun atv h => ?_) (fun rest1 => ?_)
   ·have h : VC22_k1 m K atv := h
    unfold VC22_k1 at h
    refine thenQ_n ?_
    refine sr ?_
    refine rqT 4 ⟨46, [sI 41 atv, s1 43 (.pW m.2.2.2.2), sI 44 atv], []⟩ (by kernel_rfl) ?_
    refine lcq (d := 45) [.d (.int .u32), .d tI] (fun ret45v => (⟨46, [sI 41 atv, sB 45 ret45v], []⟩ : St)) (by kernel_rfl) Try.call44 (fun _ => by kernel_rfl) (link44 m.2.2.2.2 atv _ h) (fun ret45v h => ?_)
    refine rqT 3 ⟨46, [sI 4 atv, sB 5 ret45v, sI 6 (0 : Int)], []⟩ (by kernel_rfl) ?_
    refine nn ?_
    refine aw_ret ?_
    exact retQ_r (ob := Ts 3 True) _ (by kernel_rfl) (tsI 3 trivial) h
   ·refine aw_block ?_
    refine aw_loop (σ := Int × Int) (fun s => (⟨46, [sp 2 2, sI 9 s.1, s1 26 (.pS w), e22_1 w, sI 28 s.2], [e22_0 m]⟩ : St)) (fun s X => VC22_l1 m w K s.1 s.2 X) (s0 := (m.2.2.2.1, (0 : Int))) (fun s X1 h => ?_) h
    obtain ⟨atv, v28⟩ := s
    have h : VC22_l1 m w K atv v28 X1 := h
    unfold VC22_l1 at h
    refine srn 1 ⟨46, [sp 2 2, sI 9 atv, s1 26 (.pS w), e22_1 w, sI 28 v28, sB 29 (decide (v28 < (w.length : Int)))], [e22_0 m]⟩ (by kernel_rfl) rfl ?_
    refine aw_seq ?_
    refine aw_cond (b := (decide (v28 < (w.length : Int)))) (by kernel_rfl) (fun hb => ?_) (fun hb => ?_)
    ·have h := h.1 hb
     refine aw_skip ?_
     refine thenQ_n ?_
     refine aw_seq ?_
     refine aw_block ?_
     refine sr ?_
     obtain ⟨o1, h⟩ := h
     refine rq 3 (ob := (inIdx v28 w.length ∧ Ts 2 True)) (st' := (⟨46, [sp 2 2, sI 9 atv, sI 11 (w.getD (v28).toNat (0 : Int)), s1 26 (.pS w), e22_1 w, sI 28 v28], [e22_0 m]⟩ : St)) (by kernel_rfl) (⟨o1, tsI 2 trivial⟩) ?_
     refine nn ?_
     refine aw_region ?_
     obtain ⟨o1, o2, h⟩ := h
     refine rq 9 (ob := (Ts 3 (inIdx atv m.2.2.1.length ∧ Ts 2 (inIdx (w.getD (v28).toNat (0 : Int)) (m.2.2.1.getD (atv).toNat ([] : LI)).length ∧ Ts 2 True)))) (st' := (⟨46, [sp 2 2, sI 9 ((m.2.2.1.getD (atv).toNat ([] : LI)).getD ((w.getD (v28).toNat (0 : Int))).toNat (0 : Int)), s1 26 (.pS w), e22_1 w, sI 28 v28], [e22_0 m]⟩ : St)) (by kernel_rfl) (tsI 3 (⟨o1, tsI 2 ⟨o2, tsI 2 trivial⟩⟩)) ?_
     refine awl_nil ?_
     refine blockQ_n ?_
     refine thenQ_n ?_
     refine aw_region ?_
     obtain ⟨o1, h⟩ := h
     refine rq 2 (ob := (InR (v28 + (1 : Int)) ∧ Ts 1 True)) (st' := (⟨46, [sp 2 2, sI 9 ((m.2.2.1.getD (atv).toNat ([] : LI)).getD ((w.getD (v28).toNat (0 : Int))).toNat (0 : Int)), s1 26 (.pS w), e22_1 w, sI 28 (v28 + (1 : Int))], [e22_0 m]⟩ : St)) (by kernel_rfl) (⟨o1, tsI 1 trivial⟩) ?_
     refine awl_nil ?_
     exact thenQ_n ⟨(((m.2.2.1.getD (atv).toNat ([] : LI)).getD ((w.getD (v28).toNat (0 : Int))).toNat (0 : Int)), (v28 + (1 : Int))), rfl, h⟩
    ·have h := h.2 hb
     refine cpr (st' := (⟨46, [sp 2 2, sI 9 atv], [e22_0 m]⟩ : St)) (by kernel_rfl) ?_
     refine aw_exit ?_
     refine thenQ_x ?_
     refine thenQ_x ?_
     refine blockQ_hit ?_
     exact rest1 atv h
abbrev e92_0 (m : (Int × (Int × (LL × (Int × Int))))) : Nat × Path × Con := hB 1 [.pI m.1, .pI m.2.1, .p (.sl (.sl tI)) m.2.2.1, .pI m.2.2.2.1, .pW m.2.2.2.2]
abbrev e92_1 (parted3 : (List ((Int × Int) × Int))) : Nat × Path × Con := (13, [], .dict (.pr tI tI) tI parted3)
abbrev e92_2 : Nat × Path × AV := s1 3 (.own 13)
abbrev e92_3 (parted : (List ((Int × Int) × Int))) : Nat × Path × Con := (13, [], .dict (.pr tI tI) tI parted)
abbrev e92_4 (parted2 : (List ((Int × Int) × Int))) : Nat × Path × Con := (13, [], .dict (.pr tI tI) tI parted2)
abbrev e92_5 : Nat × Path × AV := sp 1 1
abbrev e92_6 : Nat × Path × Con := (13, [], .dict (.pr tI tI) tI ([] : List ((Int × Int) × Int)))
-- coppicer/least.apart
def VC92_k1 (K : (List ((Int × Int) × Int)) → Prop) (parted : (List ((Int × Int) × Int))) : Prop :=
  K parted
def VC92_k2 (X1 : Bool × (List ((Int × Int) × Int)) → Prop) (grown2 : Bool) (parted2 : (List ((Int × Int) × Int))) : Prop :=
  X1 (grown2, parted2)
def VC92_k3 (v17 : Int) (X2 : Bool × Int × (List ((Int × Int) × Int)) → Prop) (grown3 : Bool) (parted3 : (List ((Int × Int) × Int))) : Prop :=
  (InR (v17 + (1 : Int)) ∧ X2 (grown3, (v17 + (1 : Int)), parted3))
def VC92_k4 (v22 : Int) (X3 : Bool × Int × (List ((Int × Int) × Int)) → Prop) (grown4 : Bool) (parted4 : (List ((Int × Int) × Int))) : Prop :=
  (InR (v22 + (1 : Int)) ∧ X3 (grown4, (v22 + (1 : Int)), parted4))
def VC92_k6 (v22 : Int) (X3 : Bool × Int × (List ((Int × Int) × Int)) → Prop) (grown4 : Bool) (parted4 : (List ((Int × Int) × Int))) : Prop :=
  VC92_k4 v22 X3 grown4 parted4
def VC92_k5 (v17 : Int) (grown3 : Bool) (v22 : Int) (parted3 : (List ((Int × Int) × Int))) (X3 : Bool × Int × (List ((Int × Int) × Int)) → Prop) (is : Bool) : Prop :=
  ((is = true → VC92_k6 v22 X3 true (mset parted3 (v17, v22) (1 : Int))) ∧ (is = false → VC92_k6 v22 X3 grown3 parted3))
def VC92_l4 (m : (Int × (Int × (LL × (Int × Int))))) (v17 : Int) (grown3 : Bool) (v22 : Int) (parted3 : (List ((Int × Int) × Int))) (X3 : Bool × Int × (List ((Int × Int) × Int)) → Prop) (is : Bool) (v45 : Int) (X4 : Bool × Int → Prop) : Prop :=
  (((decide (v45 < m.2.1)) = true → (inIdx v17 m.2.2.1.length ∧ inIdx v45 (m.2.2.1.getD (v17).toNat ([] : LI)).length ∧ inIdx v22 m.2.2.1.length ∧ inIdx v45 (m.2.2.1.getD (v22).toNat ([] : LI)).length ∧ (InR (v45 + (1 : Int)) ∧ X4 ((is || (mget parted3 (((m.2.2.1.getD (v17).toNat ([] : LI)).getD (v45).toNat (0 : Int)), ((m.2.2.1.getD (v22).toNat ([] : LI)).getD (v45).toNat (0 : Int)))).isSome), (v45 + (1 : Int)))))) ∧ ((decide (v45 < m.2.1)) = false → VC92_k5 v17 grown3 v22 parted3 X3 is))
def VC92_l3 (m : (Int × (Int × (LL × (Int × Int))))) (v17 : Int) (X2 : Bool × Int × (List ((Int × Int) × Int)) → Prop) (grown3 : Bool) (v22 : Int) (parted3 : (List ((Int × Int) × Int))) (X3 : Bool × Int × (List ((Int × Int) × Int)) → Prop) : Prop :=
  (((decide (v22 < m.1)) = true → (((mget parted3 (v17, v22)).isSome = true → VC92_k4 v22 X3 grown3 parted3) ∧ ((mget parted3 (v17, v22)).isSome = false → VC44 m.2.2.2.2 v17 (fun (ret37v : Bool) => VC44 m.2.2.2.2 v22 (fun (ret41v : Bool) => Loop (σ := Bool × Int) (fun s X => VC92_l4 m v17 grown3 v22 parted3 X3 s.1 s.2 X) ((ret37v != ret41v), (0 : Int))))))) ∧ ((decide (v22 < m.1)) = false → VC92_k3 v17 X2 grown3 parted3))
def VC92_l2 (m : (Int × (Int × (LL × (Int × Int))))) (X1 : Bool × (List ((Int × Int) × Int)) → Prop) (grown2 : Bool) (v17 : Int) (parted2 : (List ((Int × Int) × Int))) (X2 : Bool × Int × (List ((Int × Int) × Int)) → Prop) : Prop :=
  (((decide (v17 < m.1)) = true → Loop (σ := Bool × Int × (List ((Int × Int) × Int))) (fun s X => VC92_l3 m v17 X2 s.1 s.2.1 s.2.2 X) (grown2, (0 : Int), parted2)) ∧ ((decide (v17 < m.1)) = false → VC92_k2 X1 grown2 parted2))
def VC92_l1 (m : (Int × (Int × (LL × (Int × Int))))) (K : (List ((Int × Int) × Int)) → Prop) (grown : Bool) (parted : (List ((Int × Int) × Int))) (X1 : Bool × (List ((Int × Int) × Int)) → Prop) : Prop :=
  ((grown = true → Loop (σ := Bool × Int × (List ((Int × Int) × Int))) (fun s X => VC92_l2 m X1 s.1 s.2.1 s.2.2 X) (false, (0 : Int), parted)) ∧ (grown = false → VC92_k1 K parted))
def VC92 (m : (Int × (Int × (LL × (Int × Int))))) (K : (List ((Int × Int) × Int)) → Prop) : Prop :=
  Loop (σ := Bool × (List ((Int × Int) × Int))) (fun s X => VC92_l1 m K s.1 s.2 X) (true, ([] : List ((Int × Int) × Int)))
set_option maxHeartbeats 4000000 in
theorem link92 (m : (Int × (Int × (LL × (Int × Int))))) (K : (List ((Int × Int) × Int)) → Prop) (h : VC92 m K) : ACalls Try.prog 92 [toV1 (.pr tI (.pr tI (.pr (.sl (.sl tI)) (.pr tI (.int .u32))))) m] (fun res => ∃ y, res = (fun y => [toV1 (.mp (.pr tI tI) tI) y]) y ∧ K y) := by
 refine acalls_of_aw [(.mp (.pr tI tI) tI)] [.t 2] Try.func92 rfl rfl rfl ?_
 unfold VC92 at h
 refine sr ?_
 refine rqT 2 ⟨83, [e92_5], [e92_0 m]⟩ (by kernel_rfl) ?_
 refine nsr ?_
 refine rqT 2 ⟨83, [e92_5, e92_2], [e92_0 m, e92_6]⟩ (by kernel_rfl) ?_
 refine nn ?_
 refine aw_seq ?_
 refine srn 1 ⟨83, [e92_5, e92_2, sB 4 true], [e92_0 m, e92_6]⟩ (by kernel_rfl) rfl ?_
 refine withJoin (σ := (List ((Int × Int) × Int))) (fun s => (⟨83, [e92_2], [(13, [], .dict (.pr tI tI) tI s)]⟩ : St)) (fun s => VC92_k1 K s) (fun parted h => ?_) (fun rest1 => ?_)
 ·have h : VC92_k1 K parted := h
  unfold VC92_k1 at h
  refine thenQ_n ?_
  refine srn 2 ⟨83, [s1 2 (.own 13)], [e92_3 parted]⟩ (by kernel_rfl) rfl ?_
  refine aw_conv [.freeze 13] (st' := (⟨83, [s1 2 (.p (.mp (.pr tI tI) tI) parted)], []⟩ : St)) (by kernel_rfl) ?_
  refine aw_ret ?_
  exact retQ_r (ob := Ts 1 True) _ (by kernel_rfl) (tsI 1 trivial) h
 ·refine aw_block ?_
  refine aw_loop (σ := Bool × (List ((Int × Int) × Int))) (fun s => (⟨83, [e92_5, e92_2, sB 4 s.1], [e92_0 m, (13, [], .dict (.pr tI tI) tI s.2)]⟩ : St)) (fun s X => VC92_l1 m K s.1 s.2 X) (s0 := (true, ([] : List ((Int × Int) × Int)))) (fun s X1 h => ?_) h
  obtain ⟨grown, parted⟩ := s
  have h : VC92_l1 m K grown parted X1 := h
  unfold VC92_l1 at h
  refine aw_seq ?_
  refine srn 1 ⟨83, [e92_5, e92_2, sB 14 grown], [e92_0 m, e92_3 parted]⟩ (by kernel_rfl) rfl ?_
  refine aw_cond (b := grown) (by kernel_rfl) (fun hb => ?_) (fun hb => ?_)
  ·have h := h.1 hb
   refine aw_skip ?_
   refine thenQ_n ?_
   refine aw_block ?_
   refine sr ?_
   refine rqT 1 ⟨83, [e92_5, e92_2, sB 4 false], [e92_0 m, e92_3 parted]⟩ (by kernel_rfl) ?_
   refine nsr ?_
   refine rqT 3 ⟨83, [e92_5, e92_2, sB 4 false, sI 16 m.1, sI 17 (0 : Int)], [e92_0 m, e92_3 parted]⟩ (by kernel_rfl) ?_
   refine nn ?_
   refine withJoin (σ := Bool × (List ((Int × Int) × Int))) (fun s => (⟨83, [e92_5, e92_2, sB 4 s.1], [e92_0 m, (13, [], .dict (.pr tI tI) tI s.2)]⟩ : St)) (fun s => VC92_k2 X1 s.1 s.2) (fun s h => ?_) (fun rest2 => ?_)
   ·obtain ⟨grown2, parted2⟩ := s
    have h : VC92_k2 X1 grown2 parted2 := h
    unfold VC92_k2 at h
    refine blockQ_n ?_
    exact thenQ_n ⟨(grown2, parted2), rfl, h⟩
   ·refine aw_block ?_
    refine aw_loop (σ := Bool × Int × (List ((Int × Int) × Int))) (fun s => (⟨83, [e92_5, e92_2, sB 4 s.1, sI 16 m.1, sI 17 s.2.1], [e92_0 m, (13, [], .dict (.pr tI tI) tI s.2.2)]⟩ : St)) (fun s X => VC92_l2 m X1 s.1 s.2.1 s.2.2 X) (s0 := (false, (0 : Int), parted)) (fun s X2 h => ?_) h
    obtain ⟨grown2, v17, parted2⟩ := s
    have h : VC92_l2 m X1 grown2 v17 parted2 X2 := h
    unfold VC92_l2 at h
    refine srn 1 ⟨83, [e92_5, e92_2, sB 4 grown2, sI 16 m.1, sI 17 v17, sB 18 (decide (v17 < m.1))], [e92_0 m, e92_4 parted2]⟩ (by kernel_rfl) rfl ?_
    refine aw_seq ?_
    refine aw_cond (b := (decide (v17 < m.1))) (by kernel_rfl) (fun hb => ?_) (fun hb => ?_)
    ·have h := h.1 hb
     refine aw_skip ?_
     refine thenQ_n ?_
     refine aw_seq ?_
     refine aw_block ?_
     refine sr ?_
     refine rqT 2 ⟨83, [e92_5, e92_2, sB 4 grown2, sI 5 v17, sI 16 m.1, sI 17 v17], [e92_0 m, e92_4 parted2]⟩ (by kernel_rfl) ?_
     refine nsr ?_
     refine rqT 3 ⟨83, [e92_5, e92_2, sB 4 grown2, sI 5 v17, sI 16 m.1, sI 17 v17, sI 21 m.1, sI 22 (0 : Int)], [e92_0 m, e92_4 parted2]⟩ (by kernel_rfl) ?_
     refine nn ?_
     refine withJoin (σ := Bool × (List ((Int × Int) × Int))) (fun s => (⟨83, [e92_5, e92_2, sB 4 s.1, sI 16 m.1, sI 17 v17], [e92_0 m, (13, [], .dict (.pr tI tI) tI s.2)]⟩ : St)) (fun s => VC92_k3 v17 X2 s.1 s.2) (fun s h => ?_) (fun rest3 => ?_)
     ·obtain ⟨grown3, parted3⟩ := s
      have h : VC92_k3 v17 X2 grown3 parted3 := h
      unfold VC92_k3 at h
      refine blockQ_n ?_
      refine thenQ_n ?_
      refine aw_region ?_
      obtain ⟨o1, h⟩ := h
      refine rq 2 (ob := (InR (v17 + (1 : Int)) ∧ Ts 1 True)) (st' := (⟨83, [e92_5, e92_2, sB 4 grown3, sI 16 m.1, sI 17 (v17 + (1 : Int))], [e92_0 m, e92_1 parted3]⟩ : St)) (by kernel_rfl) (⟨o1, tsI 1 trivial⟩) ?_
      refine awl_nil ?_
      exact thenQ_n ⟨(grown3, (v17 + (1 : Int)), parted3), rfl, h⟩
     ·refine aw_block ?_
      refine aw_loop (σ := Bool × Int × (List ((Int × Int) × Int))) (fun s => (⟨83, [e92_5, e92_2, sB 4 s.1, sI 5 v17, sI 16 m.1, sI 17 v17, sI 21 m.1, sI 22 s.2.1], [e92_0 m, (13, [], .dict (.pr tI tI) tI s.2.2)]⟩ : St)) (fun s X => VC92_l3 m v17 X2 s.1 s.2.1 s.2.2 X) (s0 := (grown2, (0 : Int), parted2)) (fun s X3 h => ?_) h
      obtain ⟨grown3, v22, parted3⟩ := s
      have h : VC92_l3 m v17 X2 grown3 v22 parted3 X3 := h
      unfold VC92_l3 at h
      refine srn 1 ⟨83, [e92_5, e92_2, sB 4 grown3, sI 5 v17, sI 16 m.1, sI 17 v17, sI 21 m.1, sI 22 v22, sB 23 (decide (v22 < m.1))], [e92_0 m, e92_1 parted3]⟩ (by kernel_rfl) rfl ?_
      refine aw_seq ?_
      refine aw_cond (b := (decide (v22 < m.1))) (by kernel_rfl) (fun hb => ?_) (fun hb => ?_)
      ·have h := h.1 hb
       refine aw_skip ?_
       refine thenQ_n ?_
       refine aw_seq ?_
       refine withJoin (σ := Bool × (List ((Int × Int) × Int))) (fun s => (⟨83, [e92_5, e92_2, sB 4 s.1, sI 5 v17, sI 16 m.1, sI 17 v17, sI 21 m.1, sI 22 v22], [e92_0 m, (13, [], .dict (.pr tI tI) tI s.2)]⟩ : St)) (fun s => VC92_k4 v22 X3 s.1 s.2) (fun s h => ?_) (fun rest4 => ?_)
       ·obtain ⟨grown4, parted4⟩ := s
        have h : VC92_k4 v22 X3 grown4 parted4 := h
        unfold VC92_k4 at h
        refine thenQ_n ?_
        refine aw_region ?_
        obtain ⟨o1, h⟩ := h
        refine rq 2 (ob := (InR (v22 + (1 : Int)) ∧ Ts 1 True)) (st' := (⟨83, [e92_5, e92_2, sB 4 grown4, sI 5 v17, sI 16 m.1, sI 17 v17, sI 21 m.1, sI 22 (v22 + (1 : Int))], [e92_0 m, (13, [], .dict (.pr tI tI) tI parted4)]⟩ : St)) (by kernel_rfl) (⟨o1, tsI 1 trivial⟩) ?_
        refine awl_nil ?_
        exact thenQ_n ⟨(grown4, (v22 + (1 : Int)), parted4), rfl, h⟩
       ·refine aw_block ?_
        refine srn 2 ⟨83, [e92_5, e92_2, sB 4 grown3, sI 5 v17, sI 6 v22, sI 16 m.1, sI 17 v17, sI 21 m.1, sI 22 v22], [e92_0 m, e92_1 parted3]⟩ (by kernel_rfl) rfl ?_
        refine aw_seq ?_
        refine sr ?_
        refine rqT 10 ⟨83, [e92_5, e92_2, sB 4 grown3, sI 5 v17, sI 6 v22, sB 8 ((mget parted3 (v17, v22)).isSome), sI 16 m.1, sI 17 v17, sI 21 m.1, sI 22 v22], [e92_0 m, e92_1 parted3]⟩ (by kernel_rfl) ?_
        refine nsr ?_
        refine rqT 1 ⟨83, [e92_5, e92_2, sB 4 grown3, sI 5 v17, sI 6 v22, sI 16 m.1, sI 17 v17, sI 21 m.1, sI 22 v22, sB 33 ((mget parted3 (v17, v22)).isSome)], [e92_0 m, e92_1 parted3]⟩ (by kernel_rfl) ?_
        refine nn ?_
        refine aw_cond (b := (mget parted3 (v17, v22)).isSome) (by kernel_rfl) (fun hb => ?_) (fun hb => ?_)
        ·have h := h.1 hb
         refine cpr (st' := (⟨83, [e92_5, e92_2, sB 4 grown3, sI 5 v17, sI 16 m.1, sI 17 v17, sI 21 m.1, sI 22 v22], [e92_0 m, e92_1 parted3]⟩ : St)) (by kernel_rfl) ?_
         refine aw_exit ?_
         refine thenQ_x ?_
         refine blockQ_hit ?_
         exact rest4 (grown3, parted3) h
        ·have h := h.2 hb
         refine aw_skip ?_
         refine thenQ_n ?_
         refine aw_seq ?_
         refine awd_begin [] (by kernel_rfl) ?_
         refine drq (by kernel_rfl) [0, 1, 2, 4, 5, 6] (ob := (Ts 6 True)) (done' := [6, 5, 4, 2, 1, 0]) (st' := (⟨83, [e92_5, e92_2, sB 4 grown3, sI 5 v17, sI 6 v22, sI 16 m.1, sI 17 v17, sI 21 m.1, sI 22 v22, s1 35 (.pW m.2.2.2.2), sI 36 v17, s1 39 (.pW m.2.2.2.2), sI 40 v22], [e92_0 m, e92_1 parted3]⟩ : St)) (by kernel_rfl) (tsI 6 trivial) ?_
         refine awd_one (i := 3) (by kernel_rfl) ?_
         refine dcq (d := 37) [.d (.int .u32), .d tI] (fun ret37v => (⟨83, [e92_5, e92_2, sB 4 grown3, sI 5 v17, sI 6 v22, sI 16 m.1, sI 17 v17, sI 21 m.1, sI 22 v22, sB 37 ret37v, s1 39 (.pW m.2.2.2.2), sI 40 v22], [e92_0 m, e92_1 parted3]⟩ : St)) rfl (by kernel_rfl) Try.call44 (fun _ => by kernel_rfl) (link44 m.2.2.2.2 v17 _ h) (fun ret37v h => ?_)
         refine awd_one (i := 7) (by kernel_rfl) ?_
         refine dcq (d := 41) [.d (.int .u32), .d tI] (fun ret41v => (⟨83, [e92_5, e92_2, sB 4 grown3, sI 5 v17, sI 6 v22, sI 16 m.1, sI 17 v17, sI 21 m.1, sI 22 v22, sB 37 ret37v, sB 41 ret41v], [e92_0 m, e92_1 parted3]⟩ : St)) rfl (by kernel_rfl) Try.call44 (fun _ => by kernel_rfl) (link44 m.2.2.2.2 v22 _ h) (fun ret41v h => ?_)
         refine drq (by kernel_rfl) [8, 9] (ob := (Ts 2 True)) (done' := [9, 8, 7, 3, 6, 5, 4, 2, 1, 0]) (st' := (⟨83, [e92_5, e92_2, sB 4 grown3, sI 5 v17, sI 6 v22, sB 9 (ret37v != ret41v), sI 16 m.1, sI 17 v17, sI 21 m.1, sI 22 v22], [e92_0 m, e92_1 parted3]⟩ : St)) (by kernel_rfl) (tsI 2 trivial) ?_
         refine awd_done (by kernel_rfl) ?_
         refine thenQ_n ?_
         refine aw_seq ?_
         refine srn 3 ⟨83, [e92_5, e92_2, sB 4 grown3, sI 5 v17, sI 6 v22, sB 9 (ret37v != ret41v), sI 16 m.1, sI 17 v17, sI 21 m.1, sI 22 v22, sI 44 m.2.1, sI 45 (0 : Int)], [e92_0 m, e92_1 parted3]⟩ (by kernel_rfl) rfl ?_
         refine withJoin (σ := Bool) (fun s => (⟨83, [e92_5, e92_2, sB 4 grown3, sI 5 v17, sI 6 v22, sB 9 s, sI 16 m.1, sI 17 v17, sI 21 m.1, sI 22 v22], [e92_0 m, e92_1 parted3]⟩ : St)) (fun s => VC92_k5 v17 grown3 v22 parted3 X3 s) (fun is h => ?_) (fun rest6 => ?_)
         ·have h : VC92_k5 v17 grown3 v22 parted3 X3 is := h
          unfold VC92_k5 at h
          refine thenQ_n ?_
          refine srn 1 ⟨83, [e92_5, e92_2, sB 4 grown3, sI 5 v17, sI 6 v22, sI 16 m.1, sI 17 v17, sI 21 m.1, sI 22 v22, sB 75 is], [e92_0 m, e92_1 parted3]⟩ (by kernel_rfl) rfl ?_
          refine withJoin (σ := Bool × (List ((Int × Int) × Int))) (fun s => (⟨83, [e92_5, e92_2, sB 4 s.1, sI 5 v17, sI 16 m.1, sI 17 v17, sI 21 m.1, sI 22 v22], [e92_0 m, (13, [], .dict (.pr tI tI) tI s.2)]⟩ : St)) (fun s => VC92_k6 v22 X3 s.1 s.2) (fun s h => ?_) (fun rest5 => ?_)
          ·obtain ⟨grown4, parted4⟩ := s
           have h : VC92_k6 v22 X3 grown4 parted4 := h
           unfold VC92_k6 at h
           refine blockQ_n ?_
           exact rest4 (grown4, parted4) h
          ·refine aw_cond (b := is) (by kernel_rfl) (fun hb => ?_) (fun hb => ?_)
           ·have h := h.1 hb
            refine srn 5 ⟨83, [e92_5, e92_2, sI 5 v17, sI 16 m.1, sI 17 v17, sI 21 m.1, sI 22 v22], [e92_0 m, (13, [], .dict (.pr tI tI) tI (mset parted3 (v17, v22) (1 : Int)))]⟩ (by kernel_rfl) rfl ?_
            refine aw_region ?_
            refine rqT 1 ⟨83, [e92_5, e92_2, sB 4 true, sI 5 v17, sI 16 m.1, sI 17 v17, sI 21 m.1, sI 22 v22], [e92_0 m, (13, [], .dict (.pr tI tI) tI (mset parted3 (v17, v22) (1 : Int)))]⟩ (by kernel_rfl) ?_
            refine awl_nil ?_
            exact rest5 (true, (mset parted3 (v17, v22) (1 : Int))) h
           ·have h := h.2 hb
            refine cpr (st' := (⟨83, [e92_5, e92_2, sB 4 grown3, sI 5 v17, sI 16 m.1, sI 17 v17, sI 21 m.1, sI 22 v22], [e92_0 m, e92_1 parted3]⟩ : St)) (by kernel_rfl) ?_
            refine aw_skip ?_
            exact rest5 (grown3, parted3) h
         ·refine aw_block ?_
          refine aw_loop (σ := Bool × Int) (fun s => (⟨83, [e92_5, e92_2, sB 4 grown3, sI 5 v17, sI 6 v22, sB 9 s.1, sI 16 m.1, sI 17 v17, sI 21 m.1, sI 22 v22, sI 44 m.2.1, sI 45 s.2], [e92_0 m, e92_1 parted3]⟩ : St)) (fun s X => VC92_l4 m v17 grown3 v22 parted3 X3 s.1 s.2 X) (s0 := ((ret37v != ret41v), (0 : Int))) (fun s X4 h => ?_) h
          obtain ⟨is, v45⟩ := s
          have h : VC92_l4 m v17 grown3 v22 parted3 X3 is v45 X4 := h
          unfold VC92_l4 at h
          refine srn 1 ⟨83, [e92_5, e92_2, sB 4 grown3, sI 5 v17, sI 6 v22, sB 9 is, sI 16 m.1, sI 17 v17, sI 21 m.1, sI 22 v22, sI 44 m.2.1, sI 45 v45, sB 46 (decide (v45 < m.2.1))], [e92_0 m, e92_1 parted3]⟩ (by kernel_rfl) rfl ?_
          refine aw_seq ?_
          refine aw_cond (b := (decide (v45 < m.2.1))) (by kernel_rfl) (fun hb => ?_) (fun hb => ?_)
          ·have h := h.1 hb
           refine aw_skip ?_
           refine thenQ_n ?_
           refine aw_seq ?_
           refine aw_block ?_
           refine srn 2 ⟨83, [e92_5, e92_2, sB 4 grown3, sI 5 v17, sI 6 v22, sB 9 is, sI 10 v45, sI 16 m.1, sI 17 v17, sI 21 m.1, sI 22 v22, sI 44 m.2.1, sI 45 v45], [e92_0 m, e92_1 parted3]⟩ (by kernel_rfl) rfl ?_
           refine aw_seq ?_
           refine awd_begin [] (by kernel_rfl) ?_
           obtain ⟨o1, o2, o3, o4, h⟩ := h
           refine drq (by kernel_rfl) [0, 1, 2, 3, 4, 5, 6, 7, 8, 9, 10, 11, 12, 13, 14, 15, 16, 17, 18, 19, 20, 21, 22, 23] (ob := (Ts 4 (inIdx v17 m.2.2.1.length ∧ Ts 2 (inIdx v45 (m.2.2.1.getD (v17).toNat ([] : LI)).length ∧ Ts 4 (inIdx v22 m.2.2.1.length ∧ Ts 2 (inIdx v45 (m.2.2.1.getD (v22).toNat ([] : LI)).length ∧ Ts 8 True)))))) (done' := [23, 22, 21, 20, 19, 18, 17, 16, 15, 14, 13, 12, 11, 10, 9, 8, 7, 6, 5, 4, 3, 2, 1, 0]) (st' := (⟨83, [e92_5, e92_2, sB 4 grown3, sI 5 v17, sI 6 v22, sB 9 is, sB 12 ((mget parted3 (((m.2.2.1.getD (v17).toNat ([] : LI)).getD (v45).toNat (0 : Int)), ((m.2.2.1.getD (v22).toNat ([] : LI)).getD (v45).toNat (0 : Int)))).isSome), sI 16 m.1, sI 17 v17, sI 21 m.1, sI 22 v22, sI 44 m.2.1, sI 45 v45], [e92_0 m, e92_1 parted3]⟩ : St)) (by kernel_rfl) (tsI 4 (⟨o1, tsI 2 (⟨o2, tsI 4 (⟨o3, tsI 2 ⟨o4, tsI 8 trivial⟩⟩)⟩)⟩)) ?_
           refine awd_done (by kernel_rfl) ?_
           refine thenQ_n ?_
           refine aw_region ?_
           refine rq 5 (ob := (Ts 2 ((is = false → True) ∧ Ts 2 True))) (st' := (⟨83, [e92_5, e92_2, sB 4 grown3, sI 5 v17, sI 6 v22, sB 9 (is || (mget parted3 (((m.2.2.1.getD (v17).toNat ([] : LI)).getD (v45).toNat (0 : Int)), ((m.2.2.1.getD (v22).toNat ([] : LI)).getD (v45).toNat (0 : Int)))).isSome), sI 16 m.1, sI 17 v17, sI 21 m.1, sI 22 v22, sI 44 m.2.1, sI 45 v45], [e92_0 m, e92_1 parted3]⟩ : St)) (by kernel_rfl) (tsI 2 ⟨(fun _ => trivial), tsI 2 trivial⟩) ?_
           refine awl_nil ?_
           refine blockQ_n ?_
           refine thenQ_n ?_
           refine aw_region ?_
           obtain ⟨o1, h⟩ := h
           refine rq 2 (ob := (InR (v45 + (1 : Int)) ∧ Ts 1 True)) (st' := (⟨83, [e92_5, e92_2, sB 4 grown3, sI 5 v17, sI 6 v22, sB 9 (is || (mget parted3 (((m.2.2.1.getD (v17).toNat ([] : LI)).getD (v45).toNat (0 : Int)), ((m.2.2.1.getD (v22).toNat ([] : LI)).getD (v45).toNat (0 : Int)))).isSome), sI 16 m.1, sI 17 v17, sI 21 m.1, sI 22 v22, sI 44 m.2.1, sI 45 (v45 + (1 : Int))], [e92_0 m, e92_1 parted3]⟩ : St)) (by kernel_rfl) (⟨o1, tsI 1 trivial⟩) ?_
           refine awl_nil ?_
           exact thenQ_n ⟨((is || (mget parted3 (((m.2.2.1.getD (v17).toNat ([] : LI)).getD (v45).toNat (0 : Int)), ((m.2.2.1.getD (v22).toNat ([] : LI)).getD (v45).toNat (0 : Int)))).isSome), (v45 + (1 : Int))), rfl, h⟩
          ·have h := h.2 hb
           refine cpr (st' := (⟨83, [e92_5, e92_2, sB 4 grown3, sI 5 v17, sI 6 v22, sB 9 is, sI 16 m.1, sI 17 v17, sI 21 m.1, sI 22 v22], [e92_0 m, e92_1 parted3]⟩ : St)) (by kernel_rfl) ?_
           refine aw_exit ?_
           refine thenQ_x ?_
           refine thenQ_x ?_
           refine blockQ_hit ?_
           exact rest6 is h
      ·have h := h.2 hb
       refine cpr (st' := (⟨83, [e92_5, e92_2, sB 4 grown3, sI 16 m.1, sI 17 v17], [e92_0 m, e92_1 parted3]⟩ : St)) (by kernel_rfl) ?_
       refine aw_exit ?_
       refine thenQ_x ?_
       refine thenQ_x ?_
       refine blockQ_hit ?_
       exact rest3 (grown3, parted3) h
    ·have h := h.2 hb
     refine cpr (st' := (⟨83, [e92_5, e92_2, sB 4 grown2], [e92_0 m, e92_4 parted2]⟩ : St)) (by kernel_rfl) ?_
     refine aw_exit ?_
     refine thenQ_x ?_
     refine thenQ_x ?_
     refine blockQ_hit ?_
     exact rest2 (grown2, parted2) h
  ·have h := h.2 hb
   refine cpr (st' := (⟨83, [e92_2], [e92_3 parted]⟩ : St)) (by kernel_rfl) ?_
   refine aw_exit ?_
   refine thenQ_x ?_
   refine thenQ_x ?_
   refine blockQ_hit ?_
   exact rest1 parted h
abbrev e57_0 (m : (Int × (Int × (LL × (Int × Int))))) : Nat × Path × Con := hB 1 [.pI m.1, .pI m.2.1, .p (.sl (.sl tI)) m.2.2.1, .pI m.2.2.2.1, .pW m.2.2.2.2]
abbrev e57_1 (ret10v : (List ((Int × Int) × Int))) : Nat × Path × AV := s1 3 (.p (.mp (.pr tI tI) tI) ret10v)
abbrev e57_2 (m : (Int × (Int × (LL × (Int × Int))))) : Nat × Path × AV := sI 15 ((List.replicate (m.1).toNat (0 : Int)).length : Int)
abbrev e57_3 (out : LI) : Nat × Path × Con := hA 13 3 tI out
abbrev e57_4 : Nat × Path × AV := s1 4 (.own 13)
-- coppicer/least.alike
def VC57_k1 (K : LI → Prop) (out : LI) : Prop :=
  K out
def VC57_k2 (v16 : Int) (X1 : Int × LI → Prop) (out2 : LI) : Prop :=
  (InR (v16 + (1 : Int)) ∧ X1 ((v16 + (1 : Int)), out2))
def VC57_l2 (m : (Int × (Int × (LL × (Int × Int))))) (ret10v : (List ((Int × Int) × Int))) (v16 : Int) (out : LI) (X1 : Int × LI → Prop) (v21 : Int) (X2 : Int → Prop) : Prop :=
  (((decide (v21 < m.1)) = true → (((!(mget ret10v (v16, v21)).isSome) = true → (inIdx v16 out.length ∧ VC57_k2 v16 X1 (out.set ((v16).toNat) v21))) ∧ ((!(mget ret10v (v16, v21)).isSome) = false → (InR (v21 + (1 : Int)) ∧ X2 (v21 + (1 : Int)))))) ∧ ((decide (v21 < m.1)) = false → VC57_k2 v16 X1 out))
def VC57_l1 (m : (Int × (Int × (LL × (Int × Int))))) (K : LI → Prop) (ret10v : (List ((Int × Int) × Int))) (v16 : Int) (out : LI) (X1 : Int × LI → Prop) : Prop :=
  (((decide (v16 < ((List.replicate (m.1).toNat (0 : Int)).length : Int))) = true → Loop (σ := Int) (fun s X => VC57_l2 m ret10v v16 out X1 s X) (0 : Int)) ∧ ((decide (v16 < ((List.replicate (m.1).toNat (0 : Int)).length : Int))) = false → VC57_k1 K out))
def VC57 (m : (Int × (Int × (LL × (Int × Int))))) (K : LI → Prop) : Prop :=
  VC92 m (fun (ret10v : (List ((Int × Int) × Int))) => (room m.1 ∧ Loop (σ := Int × LI) (fun s X => VC57_l1 m K ret10v s.1 s.2 X) ((0 : Int), (List.replicate (m.1).toNat (0 : Int)))))
set_option maxHeartbeats 4000000 in
theorem link57 (m : (Int × (Int × (LL × (Int × Int))))) (K : LI → Prop) (h : VC57 m K) : ACalls Try.prog 57 [toV1 (.pr tI (.pr tI (.pr (.sl (.sl tI)) (.pr tI (.int .u32))))) m] (fun res => ∃ y, res = (fun y => [toV1 (.sl tI) y]) y ∧ K y) := by
 refine acalls_of_aw [(.sl tI)] [.t 2] Try.func57 rfl rfl rfl ?_
 unfold VC57 at h
 refine sr ?_
 refine rqT 2 ⟨41, [sp 1 1], [e57_0 m]⟩ (by kernel_rfl) ?_
 refine nsr ?_
 refine rqT 1 ⟨41, [sp 1 1, sA 9 [.pI m.1, .pI m.2.1, .p (.sl (.sl tI)) m.2.2.1, .pI m.2.2.2.1, .pW m.2.2.2.2]], [e57_0 m]⟩ (by kernel_rfl) ?_
 refine lcq (d := 10) [.d (.pr tI (.pr tI (.pr (.sl (.sl tI)) (.pr tI (.int .u32)))))] (fun ret10v => (⟨41, [sp 1 1, s1 10 (.p (.mp (.pr tI tI) tI) ret10v)], [e57_0 m]⟩ : St)) (by kernel_rfl) Try.call92 (fun _ => by kernel_rfl) (link92 m _ h) (fun ret10v h => ?_)
 refine rqT 1 ⟨41, [sp 1 1, e57_1 ret10v], [e57_0 m]⟩ (by kernel_rfl) ?_
 refine nsr ?_
 obtain ⟨o1, h⟩ := h
 refine rq 4 (ob := (Ts 2 (room m.1 ∧ Ts 1 True))) (st' := (⟨41, [sp 1 1, e57_1 ret10v, e57_4], [e57_0 m, hA 13 3 tI (List.replicate (m.1).toNat (0 : Int))]⟩ : St)) (by kernel_rfl) (tsI 2 ⟨o1, tsI 1 trivial⟩) ?_
 refine nn ?_
 refine aw_seq ?_
 refine srn 3 ⟨41, [sp 1 1, e57_1 ret10v, e57_4, e57_2 m, sI 16 (0 : Int)], [e57_0 m, hA 13 3 tI (List.replicate (m.1).toNat (0 : Int))]⟩ (by kernel_rfl) rfl ?_
 refine withJoin (σ := LI) (fun s => (⟨41, [e57_4], [hA 13 3 tI s]⟩ : St)) (fun s => VC57_k1 K s) (fun out h => ?_) (fun rest1 => ?_)
 ·have h : VC57_k1 K out := h
  unfold VC57_k1 at h
  refine thenQ_n ?_
  refine srn 2 ⟨41, [s1 2 (.own 13)], [e57_3 out]⟩ (by kernel_rfl) rfl ?_
  refine aw_conv [.freeze 13] (st' := (⟨41, [s1 2 (.pS out)], []⟩ : St)) (by kernel_rfl) ?_
  refine aw_ret ?_
  exact retQ_r (ob := Ts 1 True) _ (by kernel_rfl) (tsI 1 trivial) h
 ·refine aw_block ?_
  refine aw_loop (σ := Int × LI) (fun s => (⟨41, [sp 1 1, e57_1 ret10v, e57_4, e57_2 m, sI 16 s.1], [e57_0 m, hA 13 3 tI s.2]⟩ : St)) (fun s X => VC57_l1 m K ret10v s.1 s.2 X) (s0 := ((0 : Int), (List.replicate (m.1).toNat (0 : Int)))) (fun s X1 h => ?_) h
  obtain ⟨v16, out⟩ := s
  have h : VC57_l1 m K ret10v v16 out X1 := h
  unfold VC57_l1 at h
  refine srn 1 ⟨41, [sp 1 1, e57_1 ret10v, e57_4, e57_2 m, sI 16 v16, sB 17 (decide (v16 < ((List.replicate (m.1).toNat (0 : Int)).length : Int)))], [e57_0 m, e57_3 out]⟩ (by kernel_rfl) rfl ?_
  refine aw_seq ?_
  refine aw_cond (b := (decide (v16 < ((List.replicate (m.1).toNat (0 : Int)).length : Int)))) (by kernel_rfl) (fun hb => ?_) (fun hb => ?_)
  ·have h := h.1 hb
   refine aw_skip ?_
   refine thenQ_n ?_
   refine aw_seq ?_
   refine aw_block ?_
   refine sr ?_
   refine rqT 2 ⟨41, [sp 1 1, e57_1 ret10v, e57_4, sI 5 v16, e57_2 m, sI 16 v16], [e57_0 m, e57_3 out]⟩ (by kernel_rfl) ?_
   refine nsr ?_
   refine rqT 3 ⟨41, [sp 1 1, e57_1 ret10v, e57_4, sI 5 v16, e57_2 m, sI 16 v16, sI 20 m.1, sI 21 (0 : Int)], [e57_0 m, e57_3 out]⟩ (by kernel_rfl) ?_
   refine nn ?_
   refine withJoin (σ := LI) (fun s => (⟨41, [sp 1 1, e57_1 ret10v, e57_4, e57_2 m, sI 16 v16], [e57_0 m, hA 13 3 tI s]⟩ : St)) (fun s => VC57_k2 v16 X1 s) (fun out2 h => ?_) (fun rest2 => ?_)
   ·have h : VC57_k2 v16 X1 out2 := h
    unfold VC57_k2 at h
    refine blockQ_n ?_
    refine thenQ_n ?_
    refine aw_region ?_
    obtain ⟨o1, h⟩ := h
    refine rq 2 (ob := (InR (v16 + (1 : Int)) ∧ Ts 1 True)) (st' := (⟨41, [sp 1 1, e57_1 ret10v, e57_4, e57_2 m, sI 16 (v16 + (1 : Int))], [e57_0 m, hA 13 3 tI out2]⟩ : St)) (by kernel_rfl) (⟨o1, tsI 1 trivial⟩) ?_
    refine awl_nil ?_
    exact thenQ_n ⟨((v16 + (1 : Int)), out2), rfl, h⟩
   ·refine aw_block ?_
    refine aw_loop (σ := Int) (fun s => (⟨41, [sp 1 1, e57_1 ret10v, e57_4, sI 5 v16, e57_2 m, sI 16 v16, sI 20 m.1, sI 21 s], [e57_0 m, e57_3 out]⟩ : St)) (fun s X => VC57_l2 m ret10v v16 out X1 s X) (s0 := (0 : Int)) (fun v21 X2 h => ?_) h
    have h : VC57_l2 m ret10v v16 out X1 v21 X2 := h
    unfold VC57_l2 at h
    refine srn 1 ⟨41, [sp 1 1, e57_1 ret10v, e57_4, sI 5 v16, e57_2 m, sI 16 v16, sI 20 m.1, sI 21 v21, sB 22 (decide (v21 < m.1))], [e57_0 m, e57_3 out]⟩ (by kernel_rfl) rfl ?_
    refine aw_seq ?_
    refine aw_cond (b := (decide (v21 < m.1))) (by kernel_rfl) (fun hb => ?_) (fun hb => ?_)
    ·have h := h.1 hb
     refine aw_skip ?_
     refine thenQ_n ?_
     refine aw_seq ?_
     refine aw_block ?_
     refine sr ?_
     refine rqT 2 ⟨41, [sp 1 1, e57_1 ret10v, e57_4, sI 5 v16, sI 6 v21, e57_2 m, sI 16 v16, sI 20 m.1, sI 21 v21], [e57_0 m, e57_3 out]⟩ (by kernel_rfl) ?_
     refine nsr ?_
     refine rqT 10 ⟨41, [sp 1 1, e57_1 ret10v, e57_4, sI 5 v16, sI 6 v21, sB 8 ((mget ret10v (v16, v21)).isSome), e57_2 m, sI 16 v16, sI 20 m.1, sI 21 v21], [e57_0 m, e57_3 out]⟩ (by kernel_rfl) ?_
     refine nsr ?_
     refine rqT 2 ⟨41, [sp 1 1, e57_1 ret10v, e57_4, sI 5 v16, sI 6 v21, e57_2 m, sI 16 v16, sI 20 m.1, sI 21 v21, sB 33 (!(mget ret10v (v16, v21)).isSome)], [e57_0 m, e57_3 out]⟩ (by kernel_rfl) ?_
     refine nn ?_
     refine aw_cond (b := (!(mget ret10v (v16, v21)).isSome)) (by kernel_rfl) (fun hb => ?_) (fun hb => ?_)
     ·have h := h.1 hb
      refine sr ?_
      obtain ⟨o1, h⟩ := h
      refine rq 5 (ob := (Ts 3 (inIdx v16 out.length ∧ Ts 1 True))) (st' := (⟨41, [sp 1 1, e57_1 ret10v, e57_4, e57_2 m, sI 16 v16], [e57_0 m, hA 13 3 tI (out.set ((v16).toNat) v21)]⟩ : St)) (by kernel_rfl) (tsI 3 ⟨o1, tsI 1 trivial⟩) ?_
      refine nn ?_
      refine aw_exit ?_
      refine blockQ_miss rfl ?_
      refine thenQ_x ?_
      refine thenQ_x ?_
      refine blockQ_hit ?_
      exact rest2 (out.set ((v16).toNat) v21) h
     ·have h := h.2 hb
      refine aw_skip ?_
      refine blockQ_n ?_
      refine thenQ_n ?_
      refine aw_region ?_
      obtain ⟨o1, h⟩ := h
      refine rq 2 (ob := (InR (v21 + (1 : Int)) ∧ Ts 1 True)) (st' := (⟨41, [sp 1 1, e57_1 ret10v, e57_4, sI 5 v16, e57_2 m, sI 16 v16, sI 20 m.1, sI 21 (v21 + (1 : Int))], [e57_0 m, e57_3 out]⟩ : St)) (by kernel_rfl) (⟨o1, tsI 1 trivial⟩) ?_
      refine awl_nil ?_
      exact thenQ_n ⟨(v21 + (1 : Int)), rfl, h⟩
    ·have h := h.2 hb
     refine cpr (st' := (⟨41, [sp 1 1, e57_1 ret10v, e57_4, e57_2 m, sI 16 v16], [e57_0 m, e57_3 out]⟩ : St)) (by kernel_rfl) ?_
     refine aw_exit ?_
     refine thenQ_x ?_
     refine thenQ_x ?_
     refine blockQ_hit ?_
     exact rest2 out h
  ·have h := h.2 hb
   refine cpr (st' := (⟨41, [e57_4], [e57_3 out]⟩ : St)) (by kernel_rfl) ?_
   refine aw_exit ?_
   refine thenQ_x ?_
   refine thenQ_x ?_
   refine blockQ_hit ?_
   exact rest1 out h
end Dec
