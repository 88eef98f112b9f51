/-
Printed by dec2.py: of each function its plain demand, and that the demand gives the contract.
-/
import Derived.Test.YtckghdhnmpnljaaProg
import Derived.Test.YtckghdhnmpnljaaDecRh
set_option linter.unusedSimpArgs false
set_option linter.unusedVariables false
set_option maxRecDepth 100000
namespace Dec
open Go Go.RowKit Go.Proofs
-- coppicer/sentence.fault$1
def VC101 (x : Int) (a1 : Int) (K : Bool → Prop) : Prop :=
  K ((decide ((0 : Int) ≤ x)) && (decide (x < a1)))
set_option maxHeartbeats 4000000 in
theorem link101 (x : Int) (a1 : Int) (K : Bool → Prop) (h : VC101 x a1 K) : ACalls Try.prog 101 [toV1 tI x, .c (.ad tI a1)] (fun res => ∃ y, res = (fun y => [toV1 .bool y]) y ∧ K y) := by
 refine acalls_of_aw [.bool] [.t 3] Try.func101 rfl rfl rfl ?_
 unfold VC101 at h
 refine sr ?_
 refine rqT 1 ⟨11, [sI 0 x, s1 1 (.ad tI a1)], []⟩ (by kernel_rfl) ?_
 refine nsr ?_
 refine rq 8 (ob := (Ts 3 (Ti 3 ((decide ((0 : Int) ≤ x)) = true → True) (Ts 2 True)))) (st' := (⟨11, [sB 3 ((decide ((0 : Int) ≤ x)) && (decide (x < a1)))], []⟩ : St)) (by kernel_rfl) (tsI 3 (tiI 3 (fun _ => trivial) (tsI 2 trivial))) ?_
 refine nn ?_
 refine aw_ret ?_
 exact retQ_r (ob := Ts 1 True) _ (by kernel_rfl) (tsI 1 trivial) h
abbrev e85_0 (n : (Int × (Int × Int))) : Nat × Path × Con := hB 5 [.pI n.1, .pI n.2.1, .pI n.2.2]
-- coppicer/sentence.fault
def VC85_k2 (K : Int → Prop) : Prop :=
  K (0 : Int)
def VC85_k4 (K : Int → Prop) : Prop :=
  VC85_k2 K
def VC85_k3 (i : Int) (n : (Int × (Int × Int))) (K : Int → Prop) (v25 : Bool) : Prop :=
  ((v25 = true → VC101 n.2.1 i (fun (ret31v : Bool) => gcall (α := Bool) (!(!ret31v)) (VC101 n.2.2 i) false (fun (ret37v : Bool) => ((((!ret31v) || (!ret37v)) = true → K (2 : Int)) ∧ (((!ret31v) || (!ret37v)) = false → VC85_k4 K))))) ∧ (v25 = false → (((decide (n.1 = (6 : Int))) = true → VC101 n.2.1 i (fun (ret45v : Bool) => (((!ret45v) = true → K (2 : Int)) ∧ ((!ret45v) = false → VC85_k4 K)))) ∧ ((decide (n.1 = (6 : Int))) = false → K (6 : Int)))))
def VC85_k1 (k : Int) (i : Int) (n : (Int × (Int × Int))) (K : Int → Prop) (v11 : Bool) : Prop :=
  ((v11 = true → K (0 : Int)) ∧ (v11 = false → (((decide (n.1 = (3 : Int))) = true → ((((decide (n.2.1 < (0 : Int))) || (decide (k ≤ n.2.1))) = true → K (2 : Int)) ∧ (((decide (n.2.1 < (0 : Int))) || (decide (k ≤ n.2.1))) = false → VC85_k2 K))) ∧ ((decide (n.1 = (3 : Int))) = false → (((decide (n.1 = (4 : Int))) = true → VC85_k3 i n K (decide (n.1 = (4 : Int)))) ∧ ((decide (n.1 = (4 : Int))) = false → VC85_k3 i n K (decide (n.1 = (5 : Int)))))))))
def VC85 (k : Int) (i : Int) (n : (Int × (Int × Int))) (K : Int → Prop) : Prop :=
  (((decide (n.1 = (1 : Int))) = true → VC85_k1 k i n K (decide (n.1 = (1 : Int)))) ∧ ((decide (n.1 = (1 : Int))) = false → VC85_k1 k i n K (decide (n.1 = (2 : Int)))))
set_option maxHeartbeats 4000000 in
theorem link85 (k : Int) (i : Int) (n : (Int × (Int × Int))) (K : Int → Prop) (h : VC85 k i n K) : ACalls Try.prog 85 [toV1 tI k, toV1 tI i, toV1 t3 n] (fun res => ∃ y, res = (fun y => [toV1 tI y]) y ∧ K y) := by
 refine acalls_of_aw [tI] [.t 6] Try.func85 rfl rfl rfl ?_
 unfold VC85 at h
 refine sr ?_
 refine rqT 3 ⟨47, [sI 0 k, sp 4 4, sp 5 5], [hB 4 [.pI i], e85_0 n]⟩ (by kernel_rfl) ?_
 refine nsr ?_
 refine awl_conv [.freezeB 4 tI] (st' := (⟨47, [sI 0 k, s1 4 (.ad tI i), sp 5 5], [e85_0 n]⟩ : St)) (by kernel_rfl) ?_
 refine rqT 2 ⟨47, [sI 0 k, sp 5 5, s1 7 (.fn 101 [(⟨tI, i⟩ : Dat)])], [e85_0 n]⟩ (by kernel_rfl) ?_
 refine nn ?_
 refine aw_seq ?_
 refine srn 2 ⟨47, [sI 0 k, sp 5 5, s1 7 (.fn 101 [(⟨tI, i⟩ : Dat)]), sI 10 n.1], [e85_0 n]⟩ (by kernel_rfl) rfl ?_
 refine aw_block ?_
 refine aw_seq ?_
 refine srn 2 ⟨47, [sI 0 k, sp 5 5, s1 7 (.fn 101 [(⟨tI, i⟩ : Dat)]), sI 10 n.1, sB 11 (decide (n.1 = (1 : Int)))], [e85_0 n]⟩ (by kernel_rfl) rfl ?_
 refine withJoin (σ := Bool) (fun s => (⟨47, [sI 0 k, sp 5 5, s1 7 (.fn 101 [(⟨tI, i⟩ : Dat)]), sI 10 n.1, sB 11 s], [e85_0 n]⟩ : St)) (fun s => VC85_k1 k i n K s) (fun v11 h => ?_) (fun rest4 => ?_)
 ·have h : VC85_k1 k i n K v11 := h
  unfold VC85_k1 at h
  refine thenQ_n ?_
  refine aw_cond (b := v11) (by kernel_rfl) (fun hb => ?_) (fun hb => ?_)
  ·have h := h.1 hb
   refine srn 1 ⟨47, [sI 6 (0 : Int)], []⟩ (by kernel_rfl) rfl ?_
   refine aw_ret ?_
   refine blockQ_r ?_
   refine thenQ_r ?_
   exact retQ_r (ob := Ts 1 True) _ (by kernel_rfl) (tsI 1 trivial) h
  ·have h := h.2 hb
   refine srn 2 ⟨47, [sI 0 k, sp 5 5, s1 7 (.fn 101 [(⟨tI, i⟩ : Dat)]), sI 10 n.1, sB 14 (decide (n.1 = (3 : Int)))], [e85_0 n]⟩ (by kernel_rfl) rfl ?_
   refine withJoin (σ := Unit) (fun s => (⟨47, [], []⟩ : St)) (fun s => VC85_k2 K) (fun s h => ?_) (fun rest1 => ?_)
   ·have h : VC85_k2 K := h
    unfold VC85_k2 at h
    refine blockQ_n ?_
    refine thenQ_n ?_
    refine srn 1 ⟨47, [sI 6 (0 : Int)], []⟩ (by kernel_rfl) rfl ?_
    refine aw_ret ?_
    exact retQ_r (ob := Ts 1 True) _ (by kernel_rfl) (tsI 1 trivial) h
   ·refine aw_cond (b := (decide (n.1 = (3 : Int)))) (by kernel_rfl) (fun hb => ?_) (fun hb => ?_)
    ·have h := h.1 hb
     refine sr ?_
     refine rq 9 (ob := (Ts 4 (Ti 4 ((decide (n.2.1 < (0 : Int))) = false → True) (Ts 1 True)))) (st' := (⟨47, [sB 24 ((decide (n.2.1 < (0 : Int))) || (decide (k ≤ n.2.1)))], []⟩ : St)) (by kernel_rfl) (tsI 4 (tiI 4 (fun _ => trivial) (tsI 1 trivial))) ?_
     refine nn ?_
     refine aw_cond (b := ((decide (n.2.1 < (0 : Int))) || (decide (k ≤ n.2.1)))) (by kernel_rfl) (fun hb => ?_) (fun hb => ?_)
     ·have h := h.1 hb
      refine srn 1 ⟨47, [sI 6 (2 : Int)], []⟩ (by kernel_rfl) rfl ?_
      refine aw_ret ?_
      refine blockQ_r ?_
      refine thenQ_r ?_
      exact retQ_r (ob := Ts 1 True) _ (by kernel_rfl) (tsI 1 trivial) h
     ·have h := h.2 hb
      refine cpr (st' := (⟨47, [], []⟩ : St)) (by kernel_rfl) ?_
      refine aw_skip ?_
      exact rest1 () h
    ·have h := h.2 hb
     refine aw_seq ?_
     refine srn 2 ⟨47, [sp 5 5, s1 7 (.fn 101 [(⟨tI, i⟩ : Dat)]), sI 10 n.1, sB 25 (decide (n.1 = (4 : Int)))], [e85_0 n]⟩ (by kernel_rfl) rfl ?_
     refine withJoin (σ := Bool) (fun s => (⟨47, [sp 5 5, s1 7 (.fn 101 [(⟨tI, i⟩ : Dat)]), sI 10 n.1, sB 25 s], [e85_0 n]⟩ : St)) (fun s => VC85_k3 i n K s) (fun v25 h => ?_) (fun rest3 => ?_)
     ·have h : VC85_k3 i n K v25 := h
      unfold VC85_k3 at h
      refine thenQ_n ?_
      refine withJoin (σ := Unit) (fun s => (⟨47, [], []⟩ : St)) (fun s => VC85_k4 K) (fun s h => ?_) (fun rest2 => ?_)
      ·have h : VC85_k4 K := h
       unfold VC85_k4 at h
       exact rest1 () h
      ·refine aw_cond (b := v25) (by kernel_rfl) (fun hb => ?_) (fun hb => ?_)
       ·have h := h.1 hb
        refine sr ?_
        refine rqT 3 ⟨47, [sp 5 5, s1 7 (.fn 101 [(⟨tI, i⟩ : Dat)]), s1 28 (.fn 101 [(⟨tI, i⟩ : Dat)]), sI 30 n.2.1], [e85_0 n]⟩ (by kernel_rfl) ?_
        refine lcq (d := 31) [.d tI] (fun ret31v => (⟨47, [sp 5 5, s1 7 (.fn 101 [(⟨tI, i⟩ : Dat)]), sB 31 ret31v], [e85_0 n]⟩ : St)) (by kernel_rfl) Try.call101 (fun _ => by kernel_rfl) (link101 n.2.1 i _ h) (fun ret31v h => ?_)
        refine rq 5 (ob := (Ts 2 (Ti 3 ((!ret31v) = false → True) True))) (st' := (⟨47, [sB 33 (!ret31v), (34, [(33, false)], .v (.c (.fn 101 [(⟨tI, i⟩ : Dat)]))), (36, [(33, false)], .v (.c (.pI n.2.2)))], []⟩ : St)) (by kernel_rfl) (tsI 2 (tiI 3 (fun _ => trivial) trivial)) ?_
        refine awl_callk (p := [(33, false)]) (l := [toV1 tI n.2.2]) (cl := [.c (.ad tI i)]) false [.d tI] [33, 37] [] (fun (ret37v : Bool) => ((((!ret31v) || (!ret37v)) = true → K (2 : Int)) ∧ (((!ret31v) || (!ret37v)) = false → VC85_k4 K))) (fun ret37v => [toV1 .bool ret37v]) (fun ret37v => (⟨47, [sB 33 (!ret31v), (37, [(33, false)], .v (.c (.pB ret37v)))], []⟩ : St)) (by kernel_rfl) rfl (by kernel_rfl) rfl (by kernel_rfl) Try.call101 (by kernel_rfl) (fun ret37v => by kernel_rfl) (fun e => by cases e) (fun hg => link101 n.2.2 i _ (by have := gcall_T h (show (!(!ret31v)) = true from hg); exact this)) (fun hg => ⟨false, by have := gcall_F h (show (!(!ret31v)) = false from hg); exact this⟩) (fun ret37v h => ?_)
        refine rq 2 (ob := (((!ret31v) = false → True) ∧ Ts 1 True)) (st' := (⟨47, [sB 39 ((!ret31v) || (!ret37v))], []⟩ : St)) (by kernel_rfl) (⟨(fun _ => trivial), tsI 1 trivial⟩) ?_
        refine nn ?_
        refine aw_cond (b := ((!ret31v) || (!ret37v))) (by kernel_rfl) (fun hb => ?_) (fun hb => ?_)
        ·have h := h.1 hb
         refine srn 1 ⟨47, [sI 6 (2 : Int)], []⟩ (by kernel_rfl) rfl ?_
         refine aw_ret ?_
         refine blockQ_r ?_
         refine thenQ_r ?_
         exact retQ_r (ob := Ts 1 True) _ (by kernel_rfl) (tsI 1 trivial) h
        ·have h := h.2 hb
         refine cpr (st' := (⟨47, [], []⟩ : St)) (by kernel_rfl) ?_
         refine aw_skip ?_
         exact rest2 () h
       ·have h := h.2 hb
        refine srn 2 ⟨47, [sp 5 5, s1 7 (.fn 101 [(⟨tI, i⟩ : Dat)]), sB 40 (decide (n.1 = (6 : Int)))], [e85_0 n]⟩ (by kernel_rfl) rfl ?_
        refine aw_cond (b := (decide (n.1 = (6 : Int)))) (by kernel_rfl) (fun hb => ?_) (fun hb => ?_)
        ·have h := h.1 hb
         refine sr ?_
         refine rqT 3 ⟨47, [s1 42 (.fn 101 [(⟨tI, i⟩ : Dat)]), sI 44 n.2.1], []⟩ (by kernel_rfl) ?_
         refine lcq (d := 45) [.d tI] (fun ret45v => (⟨47, [sB 45 ret45v], []⟩ : St)) (by kernel_rfl) Try.call101 (fun _ => by kernel_rfl) (link101 n.2.1 i _ h) (fun ret45v h => ?_)
         refine rqT 1 ⟨47, [sB 46 (!ret45v)], []⟩ (by kernel_rfl) ?_
         refine nn ?_
         refine aw_cond (b := (!ret45v)) (by kernel_rfl) (fun hb => ?_) (fun hb => ?_)
         ·have h := h.1 hb
          refine srn 1 ⟨47, [sI 6 (2 : Int)], []⟩ (by kernel_rfl) rfl ?_
          refine aw_ret ?_
          refine blockQ_r ?_
          refine thenQ_r ?_
          exact retQ_r (ob := Ts 1 True) _ (by kernel_rfl) (tsI 1 trivial) h
         ·have h := h.2 hb
          refine cpr (st' := (⟨47, [], []⟩ : St)) (by kernel_rfl) ?_
          refine aw_skip ?_
          exact rest2 () h
        ·have h := h.2 hb
         refine srn 1 ⟨47, [sI 6 (6 : Int)], []⟩ (by kernel_rfl) rfl ?_
         refine aw_ret ?_
         refine blockQ_r ?_
         refine thenQ_r ?_
         exact retQ_r (ob := Ts 1 True) _ (by kernel_rfl) (tsI 1 trivial) h
     ·refine aw_cond (b := (decide (n.1 = (4 : Int)))) (by kernel_rfl) (fun hb => ?_) (fun hb => ?_)
      ·have h := h.1 hb
       refine aw_skip ?_
       exact rest3 (decide (n.1 = (4 : Int))) h
      ·have h := h.2 hb
       refine aw_region ?_
       refine rqT 2 ⟨47, [sp 5 5, s1 7 (.fn 101 [(⟨tI, i⟩ : Dat)]), sI 10 n.1, sB 25 (decide (n.1 = (5 : Int)))], [e85_0 n]⟩ (by kernel_rfl) ?_
       refine awl_nil ?_
       exact rest3 (decide (n.1 = (5 : Int))) h
 ·refine aw_cond (b := (decide (n.1 = (1 : Int)))) (by kernel_rfl) (fun hb => ?_) (fun hb => ?_)
  ·have h := h.1 hb
   refine aw_skip ?_
   exact rest4 (decide (n.1 = (1 : Int))) h
  ·have h := h.2 hb
   refine aw_region ?_
   refine rqT 2 ⟨47, [sI 0 k, sp 5 5, s1 7 (.fn 101 [(⟨tI, i⟩ : Dat)]), sI 10 n.1, sB 11 (decide (n.1 = (2 : Int)))], [e85_0 n]⟩ (by kernel_rfl) ?_
   refine awl_nil ?_
   exact rest4 (decide (n.1 = (2 : Int))) h
abbrev e45_0 (l : LN) : Nat × Path × AV := sI 25 (l.length : Int)
abbrev e45_1 (l : LN) : Nat × Path × AV := s1 24 (.p (.sl t3) l)
-- coppicer/sentence.Check
def VC45_k1 (K : Int → Prop) : Prop :=
  K (0 : Int)
def VC45_l1 (k : Int) (l : LN) (K : Int → Prop) (v26 : Int) (X1 : Int → Prop) : Prop :=
  (((decide (v26 < (l.length : Int))) = true → (inIdx v26 l.length ∧ VC85 k v26 (l.getD (v26).toNat z3) (fun (ret34v : Int) => (((!decide (ret34v = (0 : Int))) = true → K ret34v) ∧ ((!decide (ret34v = (0 : Int))) = false → (InR (v26 + (1 : Int)) ∧ X1 (v26 + (1 : Int)))))))) ∧ ((decide (v26 < (l.length : Int))) = false → VC45_k1 K))
def VC45 (k : Int) (l : LN) (K : Int → Prop) : Prop :=
  ((((((decide (k < (1 : Int))) || (decide ((3 : Int) < k))) || (decide ((l.length : Int) = (0 : Int)))) || (decide ((9 : Int) < (l.length : Int)))) = true → K (1 : Int)) ∧ (((((decide (k < (1 : Int))) || (decide ((3 : Int) < k))) || (decide ((l.length : Int) = (0 : Int)))) || (decide ((9 : Int) < (l.length : Int)))) = false → Loop (σ := Int) (fun s X => VC45_l1 k l K s X) (0 : Int)))
set_option maxHeartbeats 4000000 in
theorem link45 (k : Int) (l : LN) (K : Int → Prop) (h : VC45 k l K) : ACalls Try.prog 45 [toV1 tI k, toV1 (.sl t3) l] (fun res => ∃ y, res = (fun y => [toV1 tI y]) y ∧ K y) := by
 refine acalls_of_aw [tI] [.t 4] Try.func45 rfl rfl rfl ?_
 unfold VC45 at h
 refine srn 1 ⟨39, [sI 0 k, s1 1 (.p (.sl t3) l)], []⟩ (by kernel_rfl) rfl ?_
 refine aw_seq ?_
 refine sr ?_
 refine rq 16 (ob := (Ts 3 (Ti 2 ((decide (k < (1 : Int))) = false → True) (Ts 2 (Ti 3 (((decide (k < (1 : Int))) || (decide ((3 : Int) < k))) = false → True) (Ts 2 (Ti 3 ((((decide (k < (1 : Int))) || (decide ((3 : Int) < k))) || (decide ((l.length : Int) = (0 : Int)))) = false → True) (Ts 1 True)))))))) (st' := (⟨39, [sI 0 k, s1 1 (.p (.sl t3) l), sB 23 ((((decide (k < (1 : Int))) || (decide ((3 : Int) < k))) || (decide ((l.length : Int) = (0 : Int)))) || (decide ((9 : Int) < (l.length : Int))))], []⟩ : St)) (by kernel_rfl) (tsI 3 (tiI 2 (fun _ => trivial) (tsI 2 (tiI 3 (fun _ => trivial) (tsI 2 (tiI 3 (fun _ => trivial) (tsI 1 trivial))))))) ?_
 refine nn ?_
 refine aw_cond (b := ((((decide (k < (1 : Int))) || (decide ((3 : Int) < k))) || (decide ((l.length : Int) = (0 : Int)))) || (decide ((9 : Int) < (l.length : Int))))) (by kernel_rfl) (fun hb => ?_) (fun hb => ?_)
 ·have h := h.1 hb
  refine srn 1 ⟨39, [sI 4 (1 : Int)], []⟩ (by kernel_rfl) rfl ?_
  refine aw_ret ?_
  refine thenQ_r ?_
  exact retQ_r (ob := Ts 1 True) _ (by kernel_rfl) (tsI 1 trivial) h
 ·have h := h.2 hb
  refine aw_skip ?_
  refine thenQ_n ?_
  refine aw_seq ?_
  refine srn 3 ⟨39, [sI 0 k, e45_1 l, e45_0 l, sI 26 (0 : Int)], []⟩ (by kernel_rfl) rfl ?_
  refine withJoin (σ := Unit) (fun s => (⟨39, [], []⟩ : St)) (fun s => VC45_k1 K) (fun s h => ?_) (fun rest1 => ?_)
  ·have h : VC45_k1 K := h
   unfold VC45_k1 at h
   refine thenQ_n ?_
   refine srn 1 ⟨39, [sI 4 (0 : Int)], []⟩ (by kernel_rfl) rfl ?_
   refine aw_ret ?_
   exact retQ_r (ob := Ts 1 True) _ (by kernel_rfl) (tsI 1 trivial) h
  ·refine aw_block ?_
   refine aw_loop (σ := Int) (fun s => (⟨39, [sI 0 k, e45_1 l, e45_0 l, sI 26 s], []⟩ : St)) (fun s X => VC45_l1 k l K s X) (s0 := (0 : Int)) (fun v26 X1 h => ?_) h
   have h : VC45_l1 k l K v26 X1 := h
   unfold VC45_l1 at h
   refine srn 1 ⟨39, [sI 0 k, e45_1 l, e45_0 l, sI 26 v26, sB 27 (decide (v26 < (l.length : Int)))], []⟩ (by kernel_rfl) rfl ?_
   refine aw_seq ?_
   refine aw_cond (b := (decide (v26 < (l.length : Int)))) (by kernel_rfl) (fun hb => ?_) (fun hb => ?_)
   ·have h := h.1 hb
    refine aw_skip ?_
    refine thenQ_n ?_
    refine aw_seq ?_
    refine aw_block ?_
    refine sr ?_
    obtain ⟨o1, h⟩ := h
    refine rq 6 (ob := (Ts 1 (inIdx v26 l.length ∧ Ts 4 True))) (st' := (⟨39, [sI 0 k, sI 5 v26, sp 6 6, e45_1 l, e45_0 l, sI 26 v26], [hB 6 [.pI ((l.getD (v26).toNat z3).1), .pI ((l.getD (v26).toNat z3).2.1), .pI ((l.getD (v26).toNat z3).2.2)]]⟩ : St)) (by kernel_rfl) (tsI 1 ⟨o1, tsI 4 trivial⟩) ?_
    refine nsr ?_
    refine rqT 3 ⟨39, [sI 0 k, e45_1 l, e45_0 l, sI 26 v26, sI 31 k, sI 32 v26, sA 33 [.pI ((l.getD (v26).toNat z3).1), .pI ((l.getD (v26).toNat z3).2.1), .pI ((l.getD (v26).toNat z3).2.2)]], []⟩ (by kernel_rfl) ?_
    refine lcq (d := 34) [.d tI, .d tI, .d t3] (fun ret34v => (⟨39, [sI 0 k, e45_1 l, e45_0 l, sI 26 v26, sI 34 ret34v], []⟩ : St)) (by kernel_rfl) Try.call85 (fun _ => by kernel_rfl) (link85 k v26 (l.getD (v26).toNat z3) _ h) (fun ret34v h => ?_)
    refine rqT 1 ⟨39, [sI 0 k, sI 7 ret34v, e45_1 l, e45_0 l, sI 26 v26], []⟩ (by kernel_rfl) ?_
    refine nsr ?_
    refine rqT 2 ⟨39, [sI 0 k, sI 7 ret34v, e45_1 l, e45_0 l, sI 26 v26, sB 36 (!decide (ret34v = (0 : Int)))], []⟩ (by kernel_rfl) ?_
    refine nn ?_
    refine aw_cond (b := (!decide (ret34v = (0 : Int)))) (by kernel_rfl) (fun hb => ?_) (fun hb => ?_)
    ·have h := h.1 hb
     refine srn 2 ⟨39, [sI 4 ret34v], []⟩ (by kernel_rfl) rfl ?_
     refine aw_ret ?_
     refine blockQ_r ?_
     refine thenQ_r ?_
     refine thenQ_r ?_
     refine blockQ_r ?_
     refine thenQ_r ?_
     exact retQ_r (ob := Ts 1 True) _ (by kernel_rfl) (tsI 1 trivial) h
    ·have h := h.2 hb
     refine aw_skip ?_
     refine blockQ_n ?_
     refine thenQ_n ?_
     refine aw_region ?_
     obtain ⟨o1, h⟩ := h
     refine rq 2 (ob := (InR (v26 + (1 : Int)) ∧ Ts 1 True)) (st' := (⟨39, [sI 0 k, e45_1 l, e45_0 l, sI 26 (v26 + (1 : Int))], []⟩ : St)) (by kernel_rfl) (⟨o1, tsI 1 trivial⟩) ?_
     refine awl_nil ?_
     exact thenQ_n ⟨(v26 + (1 : Int)), rfl, h⟩
   ·have h := h.2 hb
    refine cpr (st' := (⟨39, [], []⟩ : St)) (by kernel_rfl) ?_
    refine aw_exit ?_
    refine thenQ_x ?_
    refine thenQ_x ?_
    refine blockQ_hit ?_
    exact rest1 () h
-- coppicer/machine.within
def VC82 (n : Int) (low : Int) (high : Int) (K : Bool → Prop) : Prop :=
  K ((decide (low ≤ n)) && (decide (n ≤ high)))
set_option maxHeartbeats 4000000 in
theorem link82 (n : Int) (low : Int) (high : Int) (K : Bool → Prop) (h : VC82 n low high K) : ACalls Try.prog 82 [toV1 tI n, toV1 tI low, toV1 tI high] (fun res => ∃ y, res = (fun y => [toV1 .bool y]) y ∧ K y) := by
 refine acalls_of_aw [.bool] [.t 6] Try.func82 rfl rfl rfl ?_
 unfold VC82 at h
 refine sr ?_
 refine rqT 1 ⟨15, [sI 0 n, sI 1 low, sI 2 high], []⟩ (by kernel_rfl) ?_
 refine nsr ?_
 refine rq 9 (ob := (Ts 4 (Ti 3 ((decide (low ≤ n)) = true → True) (Ts 2 True)))) (st' := (⟨15, [sB 6 ((decide (low ≤ n)) && (decide (n ≤ high)))], []⟩ : St)) (by kernel_rfl) (tsI 4 (tiI 3 (fun _ => trivial) (tsI 2 trivial))) ?_
 refine nn ?_
 refine aw_ret ?_
 exact retQ_r (ob := Ts 1 True) _ (by kernel_rfl) (tsI 1 trivial) h
-- coppicer/machine.Word$1
def VC81 (sv : Int) (a1 : Int) (K : Bool → Prop) : Prop :=
  (InR (a1 - (1 : Int)) ∧ VC82 sv (0 : Int) (a1 - (1 : Int)) (fun (ret7v : Bool) => K (!ret7v)))
set_option maxHeartbeats 4000000 in
theorem link81 (sv : Int) (a1 : Int) (K : Bool → Prop) (h : VC81 sv a1 K) : ACalls Try.prog 81 [toV1 tI sv, .c (.ad tI a1)] (fun res => ∃ y, res = (fun y => [toV1 .bool y]) y ∧ K y) := by
 refine acalls_of_aw [.bool] [.t 3] Try.func81 rfl rfl rfl ?_
 unfold VC81 at h
 refine sr ?_
 refine rqT 1 ⟨9, [sI 0 sv, s1 1 (.ad tI a1)], []⟩ (by kernel_rfl) ?_
 refine nsr ?_
 obtain ⟨o1, h⟩ := h
 refine rq 3 (ob := (Ts 2 (InR (a1 - (1 : Int)) ∧ True))) (st' := (⟨9, [sI 4 sv, sI 6 (a1 - (1 : Int))], []⟩ : St)) (by kernel_rfl) (tsI 2 ⟨o1, trivial⟩) ?_
 refine lcq (d := 7) [.d tI, .d tI, .d tI] (fun ret7v => (⟨9, [sB 7 ret7v], []⟩ : St)) (by kernel_rfl) Try.call82 (fun _ => by kernel_rfl) (link82 sv (0 : Int) (a1 - (1 : Int)) _ h) (fun ret7v h => ?_)
 refine rqT 2 ⟨9, [sB 3 (!ret7v)], []⟩ (by kernel_rfl) ?_
 refine nn ?_
 refine aw_ret ?_
 exact retQ_r (ob := Ts 1 True) _ (by kernel_rfl) (tsI 1 trivial) h
abbrev e55_0 (sv : LI) : Nat × Path × AV := sI 7 (sv.length : Int)
-- slices.IndexFunc[[]int,int]
def VC55_k1 (K : Int → Prop) : Prop :=
  K (-1 : Int)
def VC55_l1 (sv : LI) (F1 : Int → (Bool → Prop) → Prop) (K : Int → Prop) (v8 : Int) (X1 : Int → Prop) : Prop :=
  (((decide (v8 < (sv.length : Int))) = true → (inIdx v8 sv.length ∧ F1 (sv.getD (v8).toNat (0 : Int)) (fun (ret16v : Bool) => ((ret16v = true → K v8) ∧ (ret16v = false → (InR (v8 + (1 : Int)) ∧ X1 (v8 + (1 : Int)))))))) ∧ ((decide (v8 < (sv.length : Int))) = false → VC55_k1 K))
def VC55 (sv : LI) (F1 : Int → (Bool → Prop) → Prop) (K : Int → Prop) : Prop :=
  Loop (σ := Int) (fun s X => VC55_l1 sv F1 K s X) (0 : Int)
set_option maxHeartbeats 4000000 in
theorem link55 (sv : LI) (fv1 : FuncId) (cv1 : List Dat) (F1 : Int → (Bool → Prop) → Prop) (hF1 : FnIs Try.prog fv1 cv1 (fun (x : Int) => [toV1 tI x]) (fun (y : Bool) => [toV1 .bool y]) F1) (K : Int → Prop) (h : VC55 sv F1 K) : ACalls Try.prog 55 [toV1 (.sl tI) sv, .c (.fn fv1 cv1)] (fun res => ∃ y, res = (fun y => [toV1 tI y]) y ∧ K y) := by
 refine acalls_of_aw [tI] [.t 4] Try.func55 rfl rfl rfl ?_
 unfold VC55 at h
 refine srn 1 ⟨19, [s1 0 (.pS sv), s1 1 (.fn fv1 cv1)], []⟩ (by kernel_rfl) rfl ?_
 refine aw_seq ?_
 refine srn 3 ⟨19, [s1 0 (.pS sv), s1 1 (.fn fv1 cv1), e55_0 sv, sI 8 (0 : Int)], []⟩ (by kernel_rfl) rfl ?_
 refine withJoin (σ := Unit) (fun s => (⟨19, [], []⟩ : St)) (fun s => VC55_k1 K) (fun s h => ?_) (fun rest1 => ?_)
 ·have h : VC55_k1 K := h
  unfold VC55_k1 at h
  refine thenQ_n ?_
  refine srn 1 ⟨19, [sI 4 (-1 : Int)], []⟩ (by kernel_rfl) rfl ?_
  refine aw_ret ?_
  exact retQ_r (ob := Ts 1 True) _ (by kernel_rfl) (tsI 1 trivial) h
 ·refine aw_block ?_
  refine aw_loop (σ := Int) (fun s => (⟨19, [s1 0 (.pS sv), s1 1 (.fn fv1 cv1), e55_0 sv, sI 8 s], []⟩ : St)) (fun s X => VC55_l1 sv F1 K s X) (s0 := (0 : Int)) (fun v8 X1 h => ?_) h
  have h : VC55_l1 sv F1 K v8 X1 := h
  unfold VC55_l1 at h
  refine srn 1 ⟨19, [s1 0 (.pS sv), s1 1 (.fn fv1 cv1), e55_0 sv, sI 8 v8, sB 9 (decide (v8 < (sv.length : Int)))], []⟩ (by kernel_rfl) rfl ?_
  refine aw_seq ?_
  refine aw_cond (b := (decide (v8 < (sv.length : Int)))) (by kernel_rfl) (fun hb => ?_) (fun hb => ?_)
  ·have h := h.1 hb
   refine aw_skip ?_
   refine thenQ_n ?_
   refine aw_seq ?_
   refine aw_block ?_
   refine sr ?_
   refine rqT 2 ⟨19, [s1 0 (.pS sv), s1 1 (.fn fv1 cv1), sI 5 v8, e55_0 sv, sI 8 v8], []⟩ (by kernel_rfl) ?_
   refine nsr ?_
   obtain ⟨o1, h⟩ := h
   refine rq 5 (ob := (Ts 3 (inIdx v8 sv.length ∧ Ts 1 True))) (st' := (⟨19, [s1 0 (.pS sv), s1 1 (.fn fv1 cv1), sI 5 v8, e55_0 sv, sI 8 v8, s1 11 (.fn fv1 cv1), sI 15 (sv.getD (v8).toNat (0 : Int))], []⟩ : St)) (by kernel_rfl) (tsI 3 ⟨o1, tsI 1 trivial⟩) ?_
   refine lcq (d := 16) [.d tI] (fun ret16v => (⟨19, [s1 0 (.pS sv), s1 1 (.fn fv1 cv1), sI 5 v8, e55_0 sv, sI 8 v8, sB 16 ret16v], []⟩ : St)) (by kernel_rfl) hF1.1 (fun _ => by kernel_rfl) (hF1.2 (sv.getD (v8).toNat (0 : Int)) _ h) (fun ret16v h => ?_)
   refine nn ?_
   refine aw_cond (b := ret16v) (by kernel_rfl) (fun hb => ?_) (fun hb => ?_)
   ·have h := h.1 hb
    refine srn 2 ⟨19, [sI 4 v8], []⟩ (by kernel_rfl) rfl ?_
    refine aw_ret ?_
    refine blockQ_r ?_
    refine thenQ_r ?_
    refine thenQ_r ?_
    refine blockQ_r ?_
    refine thenQ_r ?_
    exact retQ_r (ob := Ts 1 True) _ (by kernel_rfl) (tsI 1 trivial) h
   ·have h := h.2 hb
    refine aw_skip ?_
    refine blockQ_n ?_
    refine thenQ_n ?_
    refine aw_region ?_
    obtain ⟨o1, h⟩ := h
    refine rq 2 (ob := (InR (v8 + (1 : Int)) ∧ Ts 1 True)) (st' := (⟨19, [s1 0 (.pS sv), s1 1 (.fn fv1 cv1), e55_0 sv, sI 8 (v8 + (1 : Int))], []⟩ : St)) (by kernel_rfl) (⟨o1, tsI 1 trivial⟩) ?_
    refine awl_nil ?_
    exact thenQ_n ⟨(v8 + (1 : Int)), rfl, h⟩
  ·have h := h.2 hb
   refine cpr (st' := (⟨19, [], []⟩ : St)) (by kernel_rfl) ?_
   refine aw_exit ?_
   refine thenQ_x ?_
   refine thenQ_x ?_
   refine blockQ_hit ?_
   exact rest1 () h
-- slices.ContainsFunc[[]int,int]
def VC79 (sv : LI) (F1 : Int → (Bool → Prop) → Prop) (K : Bool → Prop) : Prop :=
  VC55 sv F1 (fun (ret7v : Int) => K (decide ((0 : Int) ≤ ret7v)))
set_option maxHeartbeats 4000000 in
theorem link79 (sv : LI) (fv1 : FuncId) (cv1 : List Dat) (F1 : Int → (Bool → Prop) → Prop) (hF1 : FnIs Try.prog fv1 cv1 (fun (x : Int) => [toV1 tI x]) (fun (y : Bool) => [toV1 .bool y]) F1) (K : Bool → Prop) (h : VC79 sv F1 K) : ACalls Try.prog 79 [toV1 (.sl tI) sv, .c (.fn fv1 cv1)] (fun res => ∃ y, res = (fun y => [toV1 .bool y]) y ∧ K y) := by
 refine acalls_of_aw [.bool] [.t 4] Try.func79 rfl rfl rfl ?_
 unfold VC79 at h
 refine sr ?_
 refine rqT 1 ⟨9, [s1 0 (.pS sv), s1 1 (.fn fv1 cv1)], []⟩ (by kernel_rfl) ?_
 refine nsr ?_
 refine rqT 2 ⟨9, [s1 5 (.pS sv), s1 6 (.fn fv1 cv1)], []⟩ (by kernel_rfl) ?_
 refine lcq (d := 7) [.d (.sl tI), .fn] (fun ret7v => (⟨9, [sI 7 ret7v], []⟩ : St)) (by kernel_rfl) Try.call55 (fun _ => by kernel_rfl) (link55 sv fv1 cv1 F1 hF1 _ h) (fun ret7v h => ?_)
 refine rqT 2 ⟨9, [sB 4 (decide ((0 : Int) ≤ ret7v))], []⟩ (by kernel_rfl) ?_
 refine nn ?_
 refine aw_ret ?_
 exact retQ_r (ob := Ts 1 True) _ (by kernel_rfl) (tsI 1 trivial) h
-- coppicer/machine.Word
def VC40 (k : Int) (w : LI) (K : Int → Prop) : Prop :=
  (((decide ((12 : Int) < (w.length : Int))) = true → K (1 : Int)) ∧ ((decide ((12 : Int) < (w.length : Int))) = false → VC79 w (fun (x : Int) (K : Bool → Prop) => VC81 x k K) (fun (ret10v : Bool) => ((ret10v = true → K (2 : Int)) ∧ (ret10v = false → K (0 : Int))))))
set_option maxHeartbeats 4000000 in
theorem link40 (k : Int) (w : LI) (K : Int → Prop) (h : VC40 k w K) : ACalls Try.prog 40 [toV1 tI k, toV1 (.sl tI) w] (fun res => ∃ y, res = (fun y => [toV1 tI y]) y ∧ K y) := by
 refine acalls_of_aw [tI] [.t 4] Try.func40 rfl rfl rfl ?_
 unfold VC40 at h
 refine srn 2 ⟨11, [s1 1 (.pS w), sp 2 2], [hB 2 [.pI k]]⟩ (by kernel_rfl) rfl ?_
 refine aw_seq ?_
 refine srn 3 ⟨11, [s1 1 (.pS w), sp 2 2, sB 7 (decide ((12 : Int) < (w.length : Int)))], [hB 2 [.pI k]]⟩ (by kernel_rfl) rfl ?_
 refine aw_cond (b := (decide ((12 : Int) < (w.length : Int)))) (by kernel_rfl) (fun hb => ?_) (fun hb => ?_)
 ·have h := h.1 hb
  refine srn 1 ⟨11, [sI 4 (1 : Int)], []⟩ (by kernel_rfl) rfl ?_
  refine aw_ret ?_
  refine thenQ_r ?_
  exact retQ_r (ob := Ts 1 True) _ (by kernel_rfl) (tsI 1 trivial) h
 ·have h := h.2 hb
  refine aw_skip ?_
  refine thenQ_n ?_
  refine aw_seq ?_
  refine sr ?_
  refine rqT 1 ⟨11, [sp 2 2, s1 8 (.pS w)], [hB 2 [.pI k]]⟩ (by kernel_rfl) ?_
  refine awl_conv [.freezeB 2 tI] (st' := (⟨11, [s1 2 (.ad tI k), s1 8 (.pS w)], []⟩ : St)) (by kernel_rfl) ?_
  refine rqT 1 ⟨11, [s1 8 (.pS w), s1 9 (.fn 81 [(⟨tI, k⟩ : Dat)])], []⟩ (by kernel_rfl) ?_
  refine lcq (d := 10) [.d (.sl tI), .fn] (fun ret10v => (⟨11, [sB 10 ret10v], []⟩ : St)) (by kernel_rfl) Try.call79 (fun _ => by kernel_rfl) (link79 w 81 [(⟨tI, k⟩ : Dat)] (fun (x : Int) (K : Bool → Prop) => VC81 x k K) ⟨Try.call81, fun x K h => link81 x k K h⟩ _ h) (fun ret10v h => ?_)
  refine nn ?_
  refine aw_cond (b := ret10v) (by kernel_rfl) (fun hb => ?_) (fun hb => ?_)
  ·have h := h.1 hb
   refine srn 1 ⟨11, [sI 4 (2 : Int)], []⟩ (by kernel_rfl) rfl ?_
   refine aw_ret ?_
   refine thenQ_r ?_
   exact retQ_r (ob := Ts 1 True) _ (by kernel_rfl) (tsI 1 trivial) h
  ·have h := h.2 hb
   refine aw_skip ?_
   refine thenQ_n ?_
   refine srn 1 ⟨11, [sI 4 (0 : Int)], []⟩ (by kernel_rfl) rfl ?_
   refine aw_ret ?_
   exact retQ_r (ob := Ts 1 True) _ (by kernel_rfl) (tsI 1 trivial) h
-- coppicer/machine.Has
def VC44 (setv : Int) (n : Int) (K : Bool → Prop) : Prop :=
  ((0 ≤ setv ∧ 0 ≤ n) ∧ K (decide ((bAnd .u32 (bShr .u32 setv n) (1 : Int)) = (1 : Int))))
set_option maxHeartbeats 4000000 in
theorem link44 (setv : Int) (n : Int) (K : Bool → Prop) (h : VC44 setv n K) : ACalls Try.prog 44 [toV1 (.int .u32) setv, toV1 tI n] (fun res => ∃ y, res = (fun y => [toV1 .bool y]) y ∧ K y) := by
 refine acalls_of_aw [.bool] [.t 4] Try.func44 rfl rfl rfl ?_
 unfold VC44 at h
 refine sr ?_
 refine rqT 1 ⟨10, [s1 0 (.pW setv), sI 1 n], []⟩ (by kernel_rfl) ?_
 refine nsr ?_
 obtain ⟨o1, h⟩ := h
 refine rq 6 (ob := (Ts 2 ((0 ≤ setv ∧ 0 ≤ n) ∧ Ts 3 True))) (st' := (⟨10, [sB 4 (decide ((bAnd .u32 (bShr .u32 setv n) (1 : Int)) = (1 : Int)))], []⟩ : St)) (by kernel_rfl) (tsI 2 ⟨o1, tsI 3 trivial⟩) ?_
 refine nn ?_
 refine aw_ret ?_
 exact retQ_r (ob := Ts 1 True) _ (by kernel_rfl) (tsI 1 trivial) h
abbrev e86_0 (a : LI) : Nat × Path × AV := s1 0 (.p (.sl (.int .u32)) a)
abbrev e86_1 (b : LI) : Nat × Path × AV := s1 1 (.p (.sl (.int .u32)) b)
abbrev e86_2 (a2 : Int) : Nat × Path × AV := s1 2 (.ad tI a2)
abbrev e86_3 : Nat × Path × AV := s1 6 (.own 10)
abbrev e86_4 (out2 : LI) : Nat × Path × Con := hA 10 39 (.int .u32) out2
abbrev e86_5 (out : LI) : Nat × Path × Con := hA 10 39 (.int .u32) out
-- coppicer/sentence.match$1
def VC86_k1 (K : LI → Prop) (out : LI) : Prop :=
  K out
def VC86_k2 (v12 : Int) (X1 : Int × LI → Prop) (out2 : LI) : Prop :=
  (InR (v12 + (1 : Int)) ∧ X1 ((v12 + (1 : Int)), out2))
def VC86_k3 (v16 : Int) (X2 : Int × LI → Prop) (out3 : LI) : Prop :=
  (InR (v16 + (1 : Int)) ∧ X2 ((v16 + (1 : Int)), out3))
def VC86_l2 (a : LI) (b : LI) (a2 : Int) (v12 : Int) (X1 : Int × LI → Prop) (v16 : Int) (out2 : LI) (X2 : Int × LI → Prop) : Prop :=
  (((decide (v16 < a2)) = true → (inIdx v12 a.length ∧ VC44 (a.getD (v12).toNat (0 : Int)) v16 (fun (ret24v : Bool) => ((ret24v = true → (inIdx v12 out2.length ∧ inIdx v16 b.length ∧ (inIdx v12 out2.length ∧ VC86_k3 v16 X2 (out2.set ((v12).toNat) (bOr .u32 (out2.getD ((v12).toNat) (0 : Int)) (b.getD (v16).toNat (0 : Int))))))) ∧ (ret24v = false → VC86_k3 v16 X2 out2))))) ∧ ((decide (v16 < a2)) = false → VC86_k2 v12 X1 out2))
def VC86_l1 (a : LI) (b : LI) (a2 : Int) (K : LI → Prop) (v12 : Int) (out : LI) (X1 : Int × LI → Prop) : Prop :=
  (((decide (v12 < a2)) = true → Loop (σ := Int × LI) (fun s X => VC86_l2 a b a2 v12 X1 s.1 s.2 X) ((0 : Int), out)) ∧ ((decide (v12 < a2)) = false → VC86_k1 K out))
def VC86 (a : LI) (b : LI) (a2 : Int) (K : LI → Prop) : Prop :=
  (room a2 ∧ Loop (σ := Int × LI) (fun s X => VC86_l1 a b a2 K s.1 s.2 X) ((0 : Int), (List.replicate (a2).toNat (0 : Int))))
set_option maxHeartbeats 4000000 in
theorem link86 (a : LI) (b : LI) (a2 : Int) (K : LI → Prop) (h : VC86 a b a2 K) : ACallsO Try.prog 86 [toV1 (.sl (.int .u32)) a, toV1 (.sl (.int .u32)) b, .c (.ad tI a2)] 39 (.int .u32) K := by
 refine acallsO_of_aw 5 Try.func86 rfl rfl rfl ?_
 unfold VC86 at h
 refine sr ?_
 refine rqT 1 ⟨38, [e86_0 a, e86_1 b, e86_2 a2], []⟩ (by kernel_rfl) ?_
 refine nsr ?_
 obtain ⟨o1, h⟩ := h
 refine rq 3 (ob := (Ts 1 (room a2 ∧ Ts 1 True))) (st' := (⟨38, [e86_0 a, e86_1 b, e86_2 a2, e86_3], [hA 10 39 (.int .u32) (List.replicate (a2).toNat (0 : Int))]⟩ : St)) (by kernel_rfl) (tsI 1 ⟨o1, tsI 1 trivial⟩) ?_
 refine nn ?_
 refine aw_seq ?_
 refine srn 2 ⟨38, [e86_0 a, e86_1 b, e86_2 a2, e86_3, sI 11 a2, sI 12 (0 : Int)], [hA 10 39 (.int .u32) (List.replicate (a2).toNat (0 : Int))]⟩ (by kernel_rfl) rfl ?_
 refine withJoin (σ := LI) (fun s => (⟨38, [e86_3], [hA 10 39 (.int .u32) s]⟩ : St)) (fun s => VC86_k1 K s) (fun out h => ?_) (fun rest1 => ?_)
 ·have h : VC86_k1 K out := h
  unfold VC86_k1 at h
  refine thenQ_n ?_
  refine srn 2 ⟨38, [s1 5 (.own 10)], [e86_5 out]⟩ (by kernel_rfl) rfl ?_
  refine aw_ret ?_
  exact ⟨10, _, by kernel_rfl, by kernel_rfl, h⟩
 ·refine aw_block ?_
  refine aw_loop (σ := Int × LI) (fun s => (⟨38, [e86_0 a, e86_1 b, e86_2 a2, e86_3, sI 11 a2, sI 12 s.1], [hA 10 39 (.int .u32) s.2]⟩ : St)) (fun s X => VC86_l1 a b a2 K s.1 s.2 X) (s0 := ((0 : Int), (List.replicate (a2).toNat (0 : Int)))) (fun s X1 h => ?_) h
  obtain ⟨v12, out⟩ := s
  have h : VC86_l1 a b a2 K v12 out X1 := h
  unfold VC86_l1 at h
  refine srn 1 ⟨38, [e86_0 a, e86_1 b, e86_2 a2, e86_3, sI 11 a2, sI 12 v12, sB 13 (decide (v12 < a2))], [e86_5 out]⟩ (by kernel_rfl) rfl ?_
  refine aw_seq ?_
  refine aw_cond (b := (decide (v12 < a2))) (by kernel_rfl) (fun hb => ?_) (fun hb => ?_)
  ·have h := h.1 hb
   refine aw_skip ?_
   refine thenQ_n ?_
   refine aw_seq ?_
   refine aw_block ?_
   refine sr ?_
   refine rqT 2 ⟨38, [e86_0 a, e86_1 b, e86_2 a2, e86_3, sI 7 v12, sI 11 a2, sI 12 v12], [e86_5 out]⟩ (by kernel_rfl) ?_
   refine nsr ?_
   refine rqT 2 ⟨38, [e86_0 a, e86_1 b, e86_2 a2, e86_3, sI 7 v12, sI 11 a2, sI 12 v12, sI 15 a2, sI 16 (0 : Int)], [e86_5 out]⟩ (by kernel_rfl) ?_
   refine nn ?_
   refine withJoin (σ := LI) (fun s => (⟨38, [e86_0 a, e86_1 b, e86_2 a2, e86_3, sI 11 a2, sI 12 v12], [hA 10 39 (.int .u32) s]⟩ : St)) (fun s => VC86_k2 v12 X1 s) (fun out2 h => ?_) (fun rest2 => ?_)
   ·have h : VC86_k2 v12 X1 out2 := h
    unfold VC86_k2 at h
    refine blockQ_n ?_
    refine thenQ_n ?_
    refine aw_region ?_
    obtain ⟨o1, h⟩ := h
    refine rq 2 (ob := (InR (v12 + (1 : Int)) ∧ Ts 1 True)) (st' := (⟨38, [e86_0 a, e86_1 b, e86_2 a2, e86_3, sI 11 a2, sI 12 (v12 + (1 : Int))], [e86_4 out2]⟩ : St)) (by kernel_rfl) (⟨o1, tsI 1 trivial⟩) ?_
    refine awl_nil ?_
    exact thenQ_n ⟨((v12 + (1 : Int)), out2), rfl, h⟩
   ·refine aw_block ?_
    refine aw_loop (σ := Int × LI) (fun s => (⟨38, [e86_0 a, e86_1 b, e86_2 a2, e86_3, sI 7 v12, sI 11 a2, sI 12 v12, sI 15 a2, sI 16 s.1], [hA 10 39 (.int .u32) s.2]⟩ : St)) (fun s X => VC86_l2 a b a2 v12 X1 s.1 s.2 X) (s0 := ((0 : Int), out)) (fun s X2 h => ?_) h
    obtain ⟨v16, out2⟩ := s
    have h : VC86_l2 a b a2 v12 X1 v16 out2 X2 := h
    unfold VC86_l2 at h
    refine srn 1 ⟨38, [e86_0 a, e86_1 b, e86_2 a2, e86_3, sI 7 v12, sI 11 a2, sI 12 v12, sI 15 a2, sI 16 v16, sB 17 (decide (v16 < a2))], [e86_4 out2]⟩ (by kernel_rfl) rfl ?_
    refine aw_seq ?_
    refine aw_cond (b := (decide (v16 < a2))) (by kernel_rfl) (fun hb => ?_) (fun hb => ?_)
    ·have h := h.1 hb
     refine aw_skip ?_
     refine thenQ_n ?_
     refine aw_seq ?_
     refine aw_block ?_
     refine sr ?_
     refine rqT 2 ⟨38, [e86_0 a, e86_1 b, e86_2 a2, e86_3, sI 7 v12, sI 8 v16, sI 11 a2, sI 12 v12, sI 15 a2, sI 16 v16], [e86_4 out2]⟩ (by kernel_rfl) ?_
     refine nsr ?_
     obtain ⟨o1, h⟩ := h
     refine rq 5 (ob := (Ts 2 (inIdx v12 a.length ∧ Ts 2 True))) (st' := (⟨38, [e86_0 a, e86_1 b, e86_2 a2, e86_3, sI 7 v12, sI 8 v16, sI 11 a2, sI 12 v12, sI 15 a2, sI 16 v16, s1 22 (.pW (a.getD (v12).toNat (0 : Int))), sI 23 v16], [e86_4 out2]⟩ : St)) (by kernel_rfl) (tsI 2 ⟨o1, tsI 2 trivial⟩) ?_
     refine lcq (d := 24) [.d (.int .u32), .d tI] (fun ret24v => (⟨38, [e86_0 a, e86_1 b, e86_2 a2, e86_3, sI 7 v12, sI 8 v16, sI 11 a2, sI 12 v12, sI 15 a2, sI 16 v16, sB 24 ret24v], [e86_4 out2]⟩ : St)) (by kernel_rfl) Try.call44 (fun _ => by kernel_rfl) (link44 (a.getD (v12).toNat (0 : Int)) v16 _ h) (fun ret24v h => ?_)
     refine nn ?_
     refine withJoin (σ := LI) (fun s => (⟨38, [e86_0 a, e86_1 b, e86_2 a2, e86_3, sI 7 v12, sI 11 a2, sI 12 v12, sI 15 a2, sI 16 v16], [hA 10 39 (.int .u32) s]⟩ : St)) (fun s => VC86_k3 v16 X2 s) (fun out3 h => ?_) (fun rest3 => ?_)
     ·have h : VC86_k3 v16 X2 out3 := h
      unfold VC86_k3 at h
      refine blockQ_n ?_
      refine thenQ_n ?_
      refine aw_region ?_
      obtain ⟨o1, h⟩ := h
      refine rq 2 (ob := (InR (v16 + (1 : Int)) ∧ Ts 1 True)) (st' := (⟨38, [e86_0 a, e86_1 b, e86_2 a2, e86_3, sI 7 v12, sI 11 a2, sI 12 v12, sI 15 a2, sI 16 (v16 + (1 : Int))], [hA 10 39 (.int .u32) out3]⟩ : St)) (by kernel_rfl) (⟨o1, tsI 1 trivial⟩) ?_
      refine awl_nil ?_
      exact thenQ_n ⟨((v16 + (1 : Int)), out3), rfl, h⟩
     ·refine aw_cond (b := ret24v) (by kernel_rfl) (fun hb => ?_) (fun hb => ?_)
      ·have h := h.1 hb
       refine awd_begin [10] (by kernel_rfl) ?_
       obtain ⟨o1, o2, h⟩ := h
       refine drq (by kernel_rfl) [0, 1, 2, 4, 5, 6, 7] (ob := (Ts 2 (inIdx v12 out2.length ∧ Ts 2 (inIdx v16 b.length ∧ Ts 1 True)))) (done' := [7, 6, 5, 4, 2, 1, 0]) (st' := (⟨38, [e86_0 a, e86_1 b, e86_2 a2, e86_3, sI 7 v12, sI 11 a2, sI 12 v12, sI 15 a2, sI 16 v16, s1 25 (.own 10), sI 26 v12, s1 27 (.el 10 ((v12).toNat) 1), s1 32 (.pW (b.getD (v16).toNat (0 : Int)))], [e86_4 out2]⟩ : St)) (by kernel_rfl) (tsI 2 (⟨o1, tsI 2 ⟨o2, tsI 1 trivial⟩⟩)) ?_
       refine awd_one (i := 3) (by kernel_rfl) ?_
       refine dsq (ob := True) (st' := (⟨38, [e86_0 a, e86_1 b, e86_2 a2, e86_3, sI 7 v12, sI 11 a2, sI 12 v12, sI 15 a2, sI 16 v16, s1 25 (.own 10), sI 26 v12, s1 28 (.pW (out2.getD ((v12).toNat) (0 : Int))), s1 32 (.pW (b.getD (v16).toNat (0 : Int)))], [e86_4 out2]⟩ : St)) rfl (by kernel_rfl) trivial ?_
       obtain ⟨o1, h⟩ := h
       refine drq (by kernel_rfl) [8, 9] (ob := (Ts 1 (inIdx v12 out2.length ∧ True))) (done' := [9, 8, 3, 7, 6, 5, 4, 2, 1, 0]) (st' := (⟨38, [e86_0 a, e86_1 b, e86_2 a2, e86_3, sI 7 v12, sI 11 a2, sI 12 v12, sI 15 a2, sI 16 v16, s1 33 (.pW (bOr .u32 (out2.getD ((v12).toNat) (0 : Int)) (b.getD (v16).toNat (0 : Int)))), s1 34 (.el 10 ((v12).toNat) 1)], [e86_4 out2]⟩ : St)) (by kernel_rfl) (tsI 1 ⟨o1, trivial⟩) ?_
       refine awd_one (i := 10) (by kernel_rfl) ?_
       refine dsq (ob := True) (st' := (⟨38, [e86_0 a, e86_1 b, e86_2 a2, e86_3, sI 7 v12, sI 11 a2, sI 12 v12, sI 15 a2, sI 16 v16], [hA 10 39 (.int .u32) (out2.set ((v12).toNat) (bOr .u32 (out2.getD ((v12).toNat) (0 : Int)) (b.getD (v16).toNat (0 : Int))))]⟩ : St)) rfl (by kernel_rfl) trivial ?_
       refine awd_done (by kernel_rfl) ?_
       exact rest3 (out2.set ((v12).toNat) (bOr .u32 (out2.getD ((v12).toNat) (0 : Int)) (b.getD (v16).toNat (0 : Int)))) h
      ·have h := h.2 hb
       refine cpr (st' := (⟨38, [e86_0 a, e86_1 b, e86_2 a2, e86_3, sI 7 v12, sI 11 a2, sI 12 v12, sI 15 a2, sI 16 v16], [e86_4 out2]⟩ : St)) (by kernel_rfl) ?_
       refine aw_skip ?_
       exact rest3 out2 h
    ·have h := h.2 hb
     refine cpr (st' := (⟨38, [e86_0 a, e86_1 b, e86_2 a2, e86_3, sI 11 a2, sI 12 v12], [e86_4 out2]⟩ : St)) (by kernel_rfl) ?_
     refine aw_exit ?_
     refine thenQ_x ?_
     refine thenQ_x ?_
     refine blockQ_hit ?_
     exact rest2 out2 h
  ·have h := h.2 hb
   refine cpr (st' := (⟨38, [e86_3], [e86_5 out]⟩ : St)) (by kernel_rfl) ?_
   refine aw_exit ?_
   refine thenQ_x ?_
   refine thenQ_x ?_
   refine blockQ_hit ?_
   exact rest1 out h
abbrev e46_0 (l : LN) (v24 : Int) : Nat × Path × Con := hB 9 [.pI ((l.getD (v24).toNat z3).1), .pI ((l.getD (v24).toNat z3).2.1), .pI ((l.getD (v24).toNat z3).2.2)]
abbrev e46_1 (w : LI) : Nat × Path × AV := s1 5 (.ad tI ((w.length : Int) + (1 : Int)))
abbrev e46_2 (all : LL) : Nat × Path × Con := hA 5007 92 (.sl (.int .u32)) all
abbrev e46_3 (l : LN) : Nat × Path × AV := sI 23 (l.length : Int)
abbrev e46_4 (l : LN) : Nat × Path × AV := s1 22 (.p (.sl t3) l)
abbrev e46_5 : Nat × Path × AV := s1 7 (.own 5007)
abbrev e46_6 (w : LI) : Nat × Path × Con := hA 29 39 (.int .u32) (List.replicate (((w.length : Int) + (1 : Int))).toNat (0 : Int))
abbrev e46_7 : Nat × Path × AV := s1 10 (.own 29)
abbrev e46_8 (w : LI) : Nat × Path × AV := s1 1 (.pS w)
abbrev e46_9 (w : LI) : Nat × Path × AV := sI 117 ((w.length : Int) + (1 : Int))
abbrev e46_10 (rv : LI) (v81 : Int) (all : LL) (l : LN) (v24 : Int) : Nat × Path × Con := hA 29 39 (.int .u32) (rv.set ((v81).toNat) (bOr .u32 ((all.getD (((l.getD (v24).toNat z3).2.1).toNat) ([] : LI)).getD (v81).toNat (0 : Int)) ((all.getD (((l.getD (v24).toNat z3).2.2).toNat) ([] : LI)).getD (v81).toNat (0 : Int))))
abbrev e46_11 (rv : LI) : Nat × Path × Con := hA 29 39 (.int .u32) rv
abbrev e46_12 (w : LI) : Nat × Path × AV := sI 128 ((w.length : Int) + (1 : Int))
abbrev e46_13 (ret127v : LI) : Nat × Path × Con := hA 127 39 (.int .u32) ret127v
abbrev e46_14 (rv3 : LI) (v129 : Int) (ret127v : LI) : Nat × Path × Con := hA 29 39 (.int .u32) (rv3.set ((v129).toNat) (bOr .u32 (rv3.getD ((v129).toNat) (0 : Int)) (ret127v.getD ((v129).toNat) (0 : Int))))
abbrev e46_15 (w : LI) : Nat × Path × AV := sI 80 ((w.length : Int) + (1 : Int))
abbrev e46_16 (w : LI) : Nat × Path × AV := sI 107 ((w.length : Int) + (1 : Int))
abbrev e46_17 (w : LI) : Nat × Path × AV := sI 34 ((w.length : Int) + (1 : Int))
abbrev e46_18 (w : LI) : Nat × Path × AV := sI 47 (w.length : Int)
abbrev e46_19 (rv2 : LI) : Nat × Path × Con := hA 29 39 (.int .u32) rv2
abbrev e46_20 (rv3 : LI) : Nat × Path × Con := hA 29 39 (.int .u32) rv3
abbrev e46_21 (l : LN) (v24 : Int) : Nat × Path × AV := sI 31 ((l.getD (v24).toNat z3).1)
abbrev e46_22 : Nat × Path × AV := s1 16 (.own 127)
-- coppicer/sentence.match
def VC46_k1 (K : LI → Prop) (all : LL) : Prop :=
  (InR ((all.length : Int) - (1 : Int)) ∧ inIdx ((all.length : Int) - (1 : Int)) all.length ∧ K (all.getD ((((all.length : Int) - (1 : Int))).toNat) ([] : LI)))
def VC46_k2 (v24 : Int) (all : LL) (X1 : Int × LL → Prop) (rv : LI) : Prop :=
  (roomW 24 (all.length + [rv].length) ∧ (InR (v24 + (1 : Int)) ∧ X1 ((v24 + (1 : Int)), (all ++ [rv]))))
def VC46_k3 (v24 : Int) (all : LL) (X1 : Int × LL → Prop) (rv : LI) : Prop :=
  VC46_k2 v24 all X1 rv
def VC46_l2 (w : LI) (v24 : Int) (all : LL) (X1 : Int × LL → Prop) (v35 : Int) (rv : LI) (X2 : Int × LI → Prop) : Prop :=
  (((decide (v35 < ((w.length : Int) + (1 : Int)))) = true → (0 ≤ v35 ∧ inIdx v35 rv.length ∧ (InR (v35 + (1 : Int)) ∧ X2 ((v35 + (1 : Int)), (rv.set ((v35).toNat) (bShl .u32 (1 : Int) v35)))))) ∧ ((decide (v35 < ((w.length : Int) + (1 : Int)))) = false → VC46_k3 v24 all X1 rv))
def VC46_k4 (v24 : Int) (all : LL) (X1 : Int × LL → Prop) (rv : LI) : Prop :=
  VC46_k2 v24 all X1 rv
def VC46_k5 (v24 : Int) (all : LL) (X1 : Int × LL → Prop) (rv : LI) : Prop :=
  VC46_k4 v24 all X1 rv
def VC46_k6 (v48 : Int) (X3 : Int × LI → Prop) (rv2 : LI) : Prop :=
  (InR (v48 + (1 : Int)) ∧ X3 ((v48 + (1 : Int)), rv2))
def VC46_l3 (l : LN) (w : LI) (v24 : Int) (all : LL) (X1 : Int × LL → Prop) (v48 : Int) (rv : LI) (X3 : Int × LI → Prop) : Prop :=
  (((decide (v48 < (w.length : Int))) = true → (inIdx v48 w.length ∧ (((decide ((w.getD (v48).toNat (0 : Int)) = (l.getD (v24).toNat z3).2.1)) = true → (InR (v48 + (1 : Int)) ∧ 0 ≤ (v48 + (1 : Int)) ∧ inIdx v48 rv.length ∧ VC46_k6 v48 X3 (rv.set ((v48).toNat) (bShl .u32 (1 : Int) (v48 + (1 : Int)))))) ∧ ((decide ((w.getD (v48).toNat (0 : Int)) = (l.getD (v24).toNat z3).2.1)) = false → VC46_k6 v48 X3 rv)))) ∧ ((decide (v48 < (w.length : Int))) = false → VC46_k5 v24 all X1 rv))
def VC46_k7 (v24 : Int) (all : LL) (X1 : Int × LL → Prop) (rv : LI) : Prop :=
  VC46_k4 v24 all X1 rv
def VC46_k8 (v24 : Int) (all : LL) (X1 : Int × LL → Prop) (rv : LI) : Prop :=
  VC46_k7 v24 all X1 rv
def VC46_k9 (v24 : Int) (all : LL) (X1 : Int × LL → Prop) (rv : LI) : Prop :=
  VC46_k8 v24 all X1 rv
def VC46_l4 (l : LN) (w : LI) (v24 : Int) (all : LL) (X1 : Int × LL → Prop) (v81 : Int) (rv : LI) (X4 : Int × LI → Prop) : Prop :=
  (((decide (v81 < ((w.length : Int) + (1 : Int)))) = true → (inIdx ((l.getD (v24).toNat z3).2.1) all.length ∧ inIdx v81 (all.getD (((l.getD (v24).toNat z3).2.1).toNat) ([] : LI)).length ∧ inIdx ((l.getD (v24).toNat z3).2.2) all.length ∧ inIdx v81 (all.getD (((l.getD (v24).toNat z3).2.2).toNat) ([] : LI)).length ∧ inIdx v81 rv.length ∧ (InR (v81 + (1 : Int)) ∧ X4 ((v81 + (1 : Int)), (rv.set ((v81).toNat) (bOr .u32 ((all.getD (((l.getD (v24).toNat z3).2.1).toNat) ([] : LI)).getD (v81).toNat (0 : Int)) ((all.getD (((l.getD (v24).toNat z3).2.2).toNat) ([] : LI)).getD (v81).toNat (0 : Int)))))))) ∧ ((decide (v81 < ((w.length : Int) + (1 : Int)))) = false → VC46_k9 v24 all X1 rv))
def VC46_k10 (v24 : Int) (all : LL) (X1 : Int × LL → Prop) (rv : LI) : Prop :=
  VC46_k8 v24 all X1 rv
def VC46_k12 (v24 : Int) (all : LL) (X1 : Int × LL → Prop) (rv2 : LI) : Prop :=
  VC46_k10 v24 all X1 rv2
def VC46_k13 (v118 : Int) (X5 : Int × LI → Prop) (rv3 : LI) : Prop :=
  (InR (v118 + (1 : Int)) ∧ X5 ((v118 + (1 : Int)), rv3))
def VC46_l6 (w : LI) (v118 : Int) (X5 : Int × LI → Prop) (ret127v : LI) (v129 : Int) (rv3 : LI) (X6 : Int × LI → Prop) : Prop :=
  (((decide (v129 < ((w.length : Int) + (1 : Int)))) = true → (inIdx v129 rv3.length ∧ inIdx v129 ret127v.length ∧ (inIdx v129 rv3.length ∧ (InR (v129 + (1 : Int)) ∧ X6 ((v129 + (1 : Int)), (rv3.set ((v129).toNat) (bOr .u32 (rv3.getD ((v129).toNat) (0 : Int)) (ret127v.getD ((v129).toNat) (0 : Int))))))))) ∧ ((decide (v129 < ((w.length : Int) + (1 : Int)))) = false → VC46_k13 v118 X5 rv3))
def VC46_l5 (l : LN) (w : LI) (v24 : Int) (all : LL) (X1 : Int × LL → Prop) (v118 : Int) (rv2 : LI) (X5 : Int × LI → Prop) : Prop :=
  (((decide (v118 < ((w.length : Int) + (1 : Int)))) = true → (inIdx ((l.getD (v24).toNat z3).2.1) all.length ∧ VC86 rv2 (all.getD (((l.getD (v24).toNat z3).2.1).toNat) ([] : LI)) ((w.length : Int) + (1 : Int)) (fun (ret127v : LI) => Loop (σ := Int × LI) (fun s X => VC46_l6 w v118 X5 ret127v s.1 s.2 X) ((0 : Int), rv2)))) ∧ ((decide (v118 < ((w.length : Int) + (1 : Int)))) = false → VC46_k12 v24 all X1 rv2))
def VC46_k11 (l : LN) (w : LI) (v24 : Int) (all : LL) (X1 : Int × LL → Prop) (rv : LI) : Prop :=
  Loop (σ := Int × LI) (fun s X => VC46_l5 l w v24 all X1 s.1 s.2 X) ((0 : Int), rv)
def VC46_l7 (l : LN) (w : LI) (v24 : Int) (all : LL) (X1 : Int × LL → Prop) (v108 : Int) (rv : LI) (X7 : Int × LI → Prop) : Prop :=
  (((decide (v108 < ((w.length : Int) + (1 : Int)))) = true → (0 ≤ v108 ∧ inIdx v108 rv.length ∧ (InR (v108 + (1 : Int)) ∧ X7 ((v108 + (1 : Int)), (rv.set ((v108).toNat) (bShl .u32 (1 : Int) v108)))))) ∧ ((decide (v108 < ((w.length : Int) + (1 : Int)))) = false → VC46_k11 l w v24 all X1 rv))
def VC46_l1 (l : LN) (w : LI) (K : LI → Prop) (v24 : Int) (all : LL) (X1 : Int × LL → Prop) : Prop :=
  (((decide (v24 < (l.length : Int))) = true → (inIdx v24 l.length ∧ (room ((w.length : Int) + (1 : Int)) ∧ (((decide ((l.getD (v24).toNat z3).1 = (2 : Int))) = true → Loop (σ := Int × LI) (fun s X => VC46_l2 w v24 all X1 s.1 s.2 X) ((0 : Int), (List.replicate (((w.length : Int) + (1 : Int))).toNat (0 : Int)))) ∧ ((decide ((l.getD (v24).toNat z3).1 = (2 : Int))) = false → (((decide ((l.getD (v24).toNat z3).1 = (3 : Int))) = true → Loop (σ := Int × LI) (fun s X => VC46_l3 l w v24 all X1 s.1 s.2 X) ((0 : Int), (List.replicate (((w.length : Int) + (1 : Int))).toNat (0 : Int)))) ∧ ((decide ((l.getD (v24).toNat z3).1 = (3 : Int))) = false → (((decide ((l.getD (v24).toNat z3).1 = (4 : Int))) = true → (inIdx ((l.getD (v24).toNat z3).2.1) all.length ∧ inIdx ((l.getD (v24).toNat z3).2.2) all.length ∧ VC86 (all.getD (((l.getD (v24).toNat z3).2.1).toNat) ([] : LI)) (all.getD (((l.getD (v24).toNat z3).2.2).toNat) ([] : LI)) ((w.length : Int) + (1 : Int)) (fun (ret77v : LI) => VC46_k7 v24 all X1 ret77v))) ∧ ((decide ((l.getD (v24).toNat z3).1 = (4 : Int))) = false → (((decide ((l.getD (v24).toNat z3).1 = (5 : Int))) = true → Loop (σ := Int × LI) (fun s X => VC46_l4 l w v24 all X1 s.1 s.2 X) ((0 : Int), (List.replicate (((w.length : Int) + (1 : Int))).toNat (0 : Int)))) ∧ ((decide ((l.getD (v24).toNat z3).1 = (5 : Int))) = false → (((decide ((l.getD (v24).toNat z3).1 = (6 : Int))) = true → Loop (σ := Int × LI) (fun s X => VC46_l7 l w v24 all X1 s.1 s.2 X) ((0 : Int), (List.replicate (((w.length : Int) + (1 : Int))).toNat (0 : Int)))) ∧ ((decide ((l.getD (v24).toNat z3).1 = (6 : Int))) = false → VC46_k10 v24 all X1 (List.replicate (((w.length : Int) + (1 : Int))).toNat (0 : Int))))))))))))))) ∧ ((decide (v24 < (l.length : Int))) = false → VC46_k1 K all))
def VC46 (l : LN) (w : LI) (K : LI → Prop) : Prop :=
  (InR ((w.length : Int) + (1 : Int)) ∧ Loop (σ := Int × LL) (fun s X => VC46_l1 l w K s.1 s.2 X) ((0 : Int), ([] : List LI)))
set_option maxHeartbeats 4000000 in
theorem link46 (l : LN) (w : LI) (K : LI → Prop) (h : VC46 l w K) : ACalls Try.prog 46 [toV1 (.sl t3) l, toV1 (.sl tI) w] (fun res => ∃ y, res = (fun y => [toV1 (.sl (.int .u32)) y]) y ∧ K y) := by
 refine acalls_of_aw [(.sl (.int .u32))] [.t 4] Try.func46 rfl rfl rfl ?_
 unfold VC46 at h
 refine sr ?_
 refine rqT 1 ⟨155, [s1 0 (.p (.sl t3) l), e46_8 w], []⟩ (by kernel_rfl) ?_
 refine nsr ?_
 obtain ⟨o1, h⟩ := h
 refine rq 5 (ob := (Ts 2 (InR ((w.length : Int) + (1 : Int)) ∧ Ts 2 True))) (st' := (⟨155, [s1 0 (.p (.sl t3) l), e46_8 w, sp 5 5], [hB 5 [.pI ((w.length : Int) + (1 : Int))]]⟩ : St)) (by kernel_rfl) (tsI 2 ⟨o1, tsI 2 trivial⟩) ?_
 refine nsr ?_
 refine awl_conv [.freezeB 5 tI] (st' := (⟨155, [s1 0 (.p (.sl t3) l), e46_8 w, e46_1 w], []⟩ : St)) (by kernel_rfl) ?_
 refine rqT 2 ⟨155, [s1 0 (.p (.sl t3) l), e46_8 w, e46_1 w, s1 6 (.fn 86 [(⟨tI, ((w.length : Int) + (1 : Int))⟩ : Dat)])], []⟩ (by kernel_rfl) ?_
 refine nsr ?_
 refine rqT 1 ⟨155, [s1 0 (.p (.sl t3) l), e46_8 w, e46_1 w, s1 6 (.fn 86 [(⟨tI, ((w.length : Int) + (1 : Int))⟩ : Dat)]), s1 7 (.nils)], []⟩ (by kernel_rfl) ?_
 refine nn ?_
 refine aw_seq ?_
 refine srn 3 ⟨155, [e46_8 w, e46_1 w, s1 6 (.fn 86 [(⟨tI, ((w.length : Int) + (1 : Int))⟩ : Dat)]), s1 7 (.nils), e46_4 l, e46_3 l, sI 24 (0 : Int)], []⟩ (by kernel_rfl) rfl ?_
 refine withJoin (σ := LL) (fun s => (⟨155, [e46_5], [hA 5007 92 (.sl (.int .u32)) s]⟩ : St)) (fun s => VC46_k1 K s) (fun all h => ?_) (fun rest1 => ?_)
 ·have h : VC46_k1 K all := h
  unfold VC46_k1 at h
  refine thenQ_n ?_
  refine sr ?_
  obtain ⟨o1, o2, h⟩ := h
  refine rq 7 (ob := (Ts 3 (InR ((all.length : Int) - (1 : Int)) ∧ inIdx ((all.length : Int) - (1 : Int)) all.length ∧ Ts 2 True))) (st' := (⟨155, [s1 4 (.p (.sl (.int .u32)) (all.getD ((((all.length : Int) - (1 : Int))).toNat) ([] : LI)))], []⟩ : St)) (by kernel_rfl) (tsI 3 (⟨o1, ⟨o2, tsI 2 trivial⟩⟩)) ?_
  refine nn ?_
  refine aw_ret ?_
  exact retQ_r (ob := Ts 1 True) _ (by kernel_rfl) (tsI 1 trivial) h
 ·refine aw_block ?_
  refine aw_conv [.nilOwn 7 5007 92 (.sl (.int .u32)), .prune [1, 5, 6, 7, 22, 23, 24] [5007]] (st' := (⟨155, [e46_8 w, e46_1 w, s1 6 (.fn 86 [(⟨tI, ((w.length : Int) + (1 : Int))⟩ : Dat)]), e46_5, e46_4 l, e46_3 l, sI 24 (0 : Int)], [hA 5007 92 (.sl (.int .u32)) ([] : List LI)]⟩ : St)) (by kernel_rfl) ?_
  refine aw_loop (σ := Int × LL) (fun s => (⟨155, [e46_8 w, e46_1 w, s1 6 (.fn 86 [(⟨tI, ((w.length : Int) + (1 : Int))⟩ : Dat)]), e46_5, e46_4 l, e46_3 l, sI 24 s.1], [hA 5007 92 (.sl (.int .u32)) s.2]⟩ : St)) (fun s X => VC46_l1 l w K s.1 s.2 X) (s0 := ((0 : Int), ([] : List LI))) (fun s X1 h => ?_) h
  obtain ⟨v24, all⟩ := s
  have h : VC46_l1 l w K v24 all X1 := h
  unfold VC46_l1 at h
  refine srn 1 ⟨155, [e46_8 w, e46_1 w, s1 6 (.fn 86 [(⟨tI, ((w.length : Int) + (1 : Int))⟩ : Dat)]), e46_5, e46_4 l, e46_3 l, sI 24 v24, sB 25 (decide (v24 < (l.length : Int)))], [e46_2 all]⟩ (by kernel_rfl) rfl ?_
  refine aw_seq ?_
  refine aw_cond (b := (decide (v24 < (l.length : Int)))) (by kernel_rfl) (fun hb => ?_) (fun hb => ?_)
  ·have h := h.1 hb
   refine aw_skip ?_
   refine thenQ_n ?_
   refine aw_seq ?_
   refine aw_block ?_
   refine sr ?_
   obtain ⟨o1, h⟩ := h
   refine rq 4 (ob := (inIdx v24 l.length ∧ Ts 3 True)) (st' := (⟨155, [e46_8 w, e46_1 w, s1 6 (.fn 86 [(⟨tI, ((w.length : Int) + (1 : Int))⟩ : Dat)]), e46_5, sp 9 9, e46_4 l, e46_3 l, sI 24 v24], [e46_0 l v24, e46_2 all]⟩ : St)) (by kernel_rfl) (⟨o1, tsI 3 trivial⟩) ?_
   refine nsr ?_
   obtain ⟨o1, h⟩ := h
   refine rq 3 (ob := (Ts 1 (room ((w.length : Int) + (1 : Int)) ∧ Ts 1 True))) (st' := (⟨155, [e46_8 w, e46_1 w, s1 6 (.fn 86 [(⟨tI, ((w.length : Int) + (1 : Int))⟩ : Dat)]), e46_5, sp 9 9, e46_7, e46_4 l, e46_3 l, sI 24 v24], [e46_0 l v24, e46_6 w, e46_2 all]⟩ : St)) (by kernel_rfl) (tsI 1 ⟨o1, tsI 1 trivial⟩) ?_
   refine nn ?_
   refine aw_seq ?_
   refine srn 2 ⟨155, [e46_8 w, e46_1 w, s1 6 (.fn 86 [(⟨tI, ((w.length : Int) + (1 : Int))⟩ : Dat)]), e46_5, sp 9 9, e46_7, e46_4 l, e46_3 l, sI 24 v24, e46_21 l v24], [e46_0 l v24, e46_6 w, e46_2 all]⟩ (by kernel_rfl) rfl ?_
   refine aw_block ?_
   refine srn 2 ⟨155, [e46_8 w, e46_1 w, s1 6 (.fn 86 [(⟨tI, ((w.length : Int) + (1 : Int))⟩ : Dat)]), e46_5, sp 9 9, e46_7, e46_4 l, e46_3 l, sI 24 v24, e46_21 l v24, sB 32 (decide ((l.getD (v24).toNat z3).1 = (2 : Int)))], [e46_0 l v24, e46_6 w, e46_2 all]⟩ (by kernel_rfl) rfl ?_
   refine withJoin (σ := LI) (fun s => (⟨155, [e46_8 w, e46_1 w, s1 6 (.fn 86 [(⟨tI, ((w.length : Int) + (1 : Int))⟩ : Dat)]), e46_5, e46_7, e46_4 l, e46_3 l, sI 24 v24], [hA 29 39 (.int .u32) s, e46_2 all]⟩ : St)) (fun s => VC46_k2 v24 all X1 s) (fun rv h => ?_) (fun rest2 => ?_)
   ·have h : VC46_k2 v24 all X1 rv := h
    unfold VC46_k2 at h
    refine blockQ_n ?_
    refine thenQ_n ?_
    refine aw_region ?_
    refine rqT 2 ⟨155, [e46_8 w, e46_1 w, s1 6 (.fn 86 [(⟨tI, ((w.length : Int) + (1 : Int))⟩ : Dat)]), e46_4 l, e46_3 l, sI 24 v24, s1 144 (.own 5007), s1 145 (.own 29)], [e46_11 rv, e46_2 all]⟩ (by kernel_rfl) ?_
    refine awl_conv [.freeze 29] (st' := (⟨155, [e46_8 w, e46_1 w, s1 6 (.fn 86 [(⟨tI, ((w.length : Int) + (1 : Int))⟩ : Dat)]), e46_4 l, e46_3 l, sI 24 v24, s1 144 (.own 5007), s1 145 (.p (.sl (.int .u32)) rv)], [e46_2 all]⟩ : St)) (by kernel_rfl) ?_
    obtain ⟨o1, h⟩ := h
    refine rq 3 (ob := (Ts 1 (roomW 24 (all.length + [rv].length) ∧ Ts 1 True))) (st' := (⟨155, [e46_8 w, e46_1 w, s1 6 (.fn 86 [(⟨tI, ((w.length : Int) + (1 : Int))⟩ : Dat)]), s1 7 (.own 147), e46_4 l, e46_3 l, sI 24 v24], [hA 147 92 (.sl (.int .u32)) (all ++ [rv])]⟩ : St)) (by kernel_rfl) (tsI 1 ⟨o1, tsI 1 trivial⟩) ?_
    refine awl_nil ?_
    refine blockQ_n ?_
    refine thenQ_n ?_
    refine aw_region ?_
    obtain ⟨o1, h⟩ := h
    refine rq 2 (ob := (InR (v24 + (1 : Int)) ∧ Ts 1 True)) (st' := (⟨155, [e46_8 w, e46_1 w, s1 6 (.fn 86 [(⟨tI, ((w.length : Int) + (1 : Int))⟩ : Dat)]), s1 7 (.own 147), e46_4 l, e46_3 l, sI 24 (v24 + (1 : Int))], [hA 147 92 (.sl (.int .u32)) (all ++ [rv])]⟩ : St)) (by kernel_rfl) (⟨o1, tsI 1 trivial⟩) ?_
    refine awl_conv [.ren 147 20147, .ren 20147 5007] (st' := (⟨155, [e46_8 w, e46_1 w, s1 6 (.fn 86 [(⟨tI, ((w.length : Int) + (1 : Int))⟩ : Dat)]), e46_5, e46_4 l, e46_3 l, sI 24 (v24 + (1 : Int))], [hA 5007 92 (.sl (.int .u32)) (all ++ [rv])]⟩ : St)) (by kernel_rfl) ?_
    refine awl_nil ?_
    exact thenQ_n ⟨((v24 + (1 : Int)), (all ++ [rv])), rfl, h⟩
   ·refine aw_cond (b := (decide ((l.getD (v24).toNat z3).1 = (2 : Int)))) (by kernel_rfl) (fun hb => ?_) (fun hb => ?_)
    ·have h := h.1 hb
     refine srn 2 ⟨155, [e46_8 w, e46_1 w, s1 6 (.fn 86 [(⟨tI, ((w.length : Int) + (1 : Int))⟩ : Dat)]), e46_5, e46_7, e46_4 l, e46_3 l, sI 24 v24, e46_17 w, sI 35 (0 : Int)], [e46_6 w, e46_2 all]⟩ (by kernel_rfl) rfl ?_
     refine withJoin (σ := LI) (fun s => (⟨155, [e46_8 w, e46_1 w, s1 6 (.fn 86 [(⟨tI, ((w.length : Int) + (1 : Int))⟩ : Dat)]), e46_5, e46_7, e46_4 l, e46_3 l, sI 24 v24], [hA 29 39 (.int .u32) s, e46_2 all]⟩ : St)) (fun s => VC46_k3 v24 all X1 s) (fun rv h => ?_) (fun rest3 => ?_)
     ·have h : VC46_k3 v24 all X1 rv := h
      unfold VC46_k3 at h
      exact rest2 rv h
     ·refine aw_block ?_
      refine aw_loop (σ := Int × LI) (fun s => (⟨155, [e46_8 w, e46_1 w, s1 6 (.fn 86 [(⟨tI, ((w.length : Int) + (1 : Int))⟩ : Dat)]), e46_5, e46_7, e46_4 l, e46_3 l, sI 24 v24, e46_17 w, sI 35 s.1], [hA 29 39 (.int .u32) s.2, e46_2 all]⟩ : St)) (fun s X => VC46_l2 w v24 all X1 s.1 s.2 X) (s0 := ((0 : Int), (List.replicate (((w.length : Int) + (1 : Int))).toNat (0 : Int)))) (fun s X2 h => ?_) h
      obtain ⟨v35, rv⟩ := s
      have h : VC46_l2 w v24 all X1 v35 rv X2 := h
      unfold VC46_l2 at h
      refine srn 1 ⟨155, [e46_8 w, e46_1 w, s1 6 (.fn 86 [(⟨tI, ((w.length : Int) + (1 : Int))⟩ : Dat)]), e46_5, e46_7, e46_4 l, e46_3 l, sI 24 v24, e46_17 w, sI 35 v35, sB 36 (decide (v35 < ((w.length : Int) + (1 : Int))))], [e46_11 rv, e46_2 all]⟩ (by kernel_rfl) rfl ?_
      refine aw_seq ?_
      refine aw_cond (b := (decide (v35 < ((w.length : Int) + (1 : Int))))) (by kernel_rfl) (fun hb => ?_) (fun hb => ?_)
      ·have h := h.1 hb
       refine aw_skip ?_
       refine thenQ_n ?_
       refine aw_seq ?_
       refine aw_block ?_
       refine srn 2 ⟨155, [e46_8 w, e46_1 w, s1 6 (.fn 86 [(⟨tI, ((w.length : Int) + (1 : Int))⟩ : Dat)]), e46_5, e46_7, sI 11 v35, e46_4 l, e46_3 l, sI 24 v24, e46_17 w, sI 35 v35], [e46_11 rv, e46_2 all]⟩ (by kernel_rfl) rfl ?_
       refine aw_region ?_
       obtain ⟨o1, o2, h⟩ := h
       refine rq 6 (ob := (Ts 3 (0 ≤ v35 ∧ inIdx v35 rv.length ∧ Ts 1 True))) (st' := (⟨155, [e46_8 w, e46_1 w, s1 6 (.fn 86 [(⟨tI, ((w.length : Int) + (1 : Int))⟩ : Dat)]), e46_5, e46_7, e46_4 l, e46_3 l, sI 24 v24, e46_17 w, sI 35 v35], [hA 29 39 (.int .u32) (rv.set ((v35).toNat) (bShl .u32 (1 : Int) v35)), e46_2 all]⟩ : St)) (by kernel_rfl) (tsI 3 (⟨o1, ⟨o2, tsI 1 trivial⟩⟩)) ?_
       refine awl_nil ?_
       refine blockQ_n ?_
       refine thenQ_n ?_
       refine aw_region ?_
       obtain ⟨o1, h⟩ := h
       refine rq 2 (ob := (InR (v35 + (1 : Int)) ∧ Ts 1 True)) (st' := (⟨155, [e46_8 w, e46_1 w, s1 6 (.fn 86 [(⟨tI, ((w.length : Int) + (1 : Int))⟩ : Dat)]), e46_5, e46_7, e46_4 l, e46_3 l, sI 24 v24, e46_17 w, sI 35 (v35 + (1 : Int))], [hA 29 39 (.int .u32) (rv.set ((v35).toNat) (bShl .u32 (1 : Int) v35)), e46_2 all]⟩ : St)) (by kernel_rfl) (⟨o1, tsI 1 trivial⟩) ?_
       refine awl_nil ?_
       exact thenQ_n ⟨((v35 + (1 : Int)), (rv.set ((v35).toNat) (bShl .u32 (1 : Int) v35))), rfl, h⟩
      ·have h := h.2 hb
       refine cpr (st' := (⟨155, [e46_8 w, e46_1 w, s1 6 (.fn 86 [(⟨tI, ((w.length : Int) + (1 : Int))⟩ : Dat)]), e46_5, e46_7, e46_4 l, e46_3 l, sI 24 v24], [e46_11 rv, e46_2 all]⟩ : St)) (by kernel_rfl) ?_
       refine aw_exit ?_
       refine thenQ_x ?_
       refine thenQ_x ?_
       refine blockQ_hit ?_
       exact rest3 rv h
    ·have h := h.2 hb
     refine srn 2 ⟨155, [e46_8 w, e46_1 w, s1 6 (.fn 86 [(⟨tI, ((w.length : Int) + (1 : Int))⟩ : Dat)]), e46_5, sp 9 9, e46_7, e46_4 l, e46_3 l, sI 24 v24, e46_21 l v24, sB 44 (decide ((l.getD (v24).toNat z3).1 = (3 : Int)))], [e46_0 l v24, e46_6 w, e46_2 all]⟩ (by kernel_rfl) rfl ?_
     refine withJoin (σ := LI) (fun s => (⟨155, [e46_8 w, e46_1 w, s1 6 (.fn 86 [(⟨tI, ((w.length : Int) + (1 : Int))⟩ : Dat)]), e46_5, e46_7, e46_4 l, e46_3 l, sI 24 v24], [hA 29 39 (.int .u32) s, e46_2 all]⟩ : St)) (fun s => VC46_k4 v24 all X1 s) (fun rv h => ?_) (fun rest4 => ?_)
     ·have h : VC46_k4 v24 all X1 rv := h
      unfold VC46_k4 at h
      exact rest2 rv h
     ·refine aw_cond (b := (decide ((l.getD (v24).toNat z3).1 = (3 : Int)))) (by kernel_rfl) (fun hb => ?_) (fun hb => ?_)
      ·have h := h.1 hb
       refine srn 3 ⟨155, [e46_8 w, e46_1 w, s1 6 (.fn 86 [(⟨tI, ((w.length : Int) + (1 : Int))⟩ : Dat)]), e46_5, sp 9 9, e46_7, e46_4 l, e46_3 l, sI 24 v24, s1 46 (.pS w), e46_18 w, sI 48 (0 : Int)], [e46_0 l v24, e46_6 w, e46_2 all]⟩ (by kernel_rfl) rfl ?_
       refine withJoin (σ := LI) (fun s => (⟨155, [e46_8 w, e46_1 w, s1 6 (.fn 86 [(⟨tI, ((w.length : Int) + (1 : Int))⟩ : Dat)]), e46_5, e46_7, e46_4 l, e46_3 l, sI 24 v24], [hA 29 39 (.int .u32) s, e46_2 all]⟩ : St)) (fun s => VC46_k5 v24 all X1 s) (fun rv h => ?_) (fun rest5 => ?_)
       ·have h : VC46_k5 v24 all X1 rv := h
        unfold VC46_k5 at h
        exact rest4 rv h
       ·refine aw_block ?_
        refine aw_loop (σ := Int × LI) (fun s => (⟨155, [e46_8 w, e46_1 w, s1 6 (.fn 86 [(⟨tI, ((w.length : Int) + (1 : Int))⟩ : Dat)]), e46_5, sp 9 9, e46_7, e46_4 l, e46_3 l, sI 24 v24, s1 46 (.pS w), e46_18 w, sI 48 s.1], [e46_0 l v24, hA 29 39 (.int .u32) s.2, e46_2 all]⟩ : St)) (fun s X => VC46_l3 l w v24 all X1 s.1 s.2 X) (s0 := ((0 : Int), (List.replicate (((w.length : Int) + (1 : Int))).toNat (0 : Int)))) (fun s X3 h => ?_) h
        obtain ⟨v48, rv⟩ := s
        have h : VC46_l3 l w v24 all X1 v48 rv X3 := h
        unfold VC46_l3 at h
        refine srn 1 ⟨155, [e46_8 w, e46_1 w, s1 6 (.fn 86 [(⟨tI, ((w.length : Int) + (1 : Int))⟩ : Dat)]), e46_5, sp 9 9, e46_7, e46_4 l, e46_3 l, sI 24 v24, s1 46 (.pS w), e46_18 w, sI 48 v48, sB 49 (decide (v48 < (w.length : Int)))], [e46_0 l v24, e46_11 rv, e46_2 all]⟩ (by kernel_rfl) rfl ?_
        refine aw_seq ?_
        refine aw_cond (b := (decide (v48 < (w.length : Int)))) (by kernel_rfl) (fun hb => ?_) (fun hb => ?_)
        ·have h := h.1 hb
         refine aw_skip ?_
         refine thenQ_n ?_
         refine aw_seq ?_
         refine aw_block ?_
         refine sr ?_
         obtain ⟨o1, h⟩ := h
         refine rq 5 (ob := (Ts 1 (inIdx v48 w.length ∧ Ts 3 True))) (st' := (⟨155, [e46_8 w, e46_1 w, s1 6 (.fn 86 [(⟨tI, ((w.length : Int) + (1 : Int))⟩ : Dat)]), e46_5, sp 9 9, e46_7, sI 12 v48, sI 13 (w.getD (v48).toNat (0 : Int)), e46_4 l, e46_3 l, sI 24 v24, s1 46 (.pS w), e46_18 w, sI 48 v48], [e46_0 l v24, e46_11 rv, e46_2 all]⟩ : St)) (by kernel_rfl) (tsI 1 ⟨o1, tsI 3 trivial⟩) ?_
         refine nsr ?_
         refine rqT 4 ⟨155, [e46_8 w, e46_1 w, s1 6 (.fn 86 [(⟨tI, ((w.length : Int) + (1 : Int))⟩ : Dat)]), e46_5, sp 9 9, e46_7, sI 12 v48, e46_4 l, e46_3 l, sI 24 v24, s1 46 (.pS w), e46_18 w, sI 48 v48, sB 56 (decide ((w.getD (v48).toNat (0 : Int)) = (l.getD (v24).toNat z3).2.1))], [e46_0 l v24, e46_11 rv, e46_2 all]⟩ (by kernel_rfl) ?_
         refine nn ?_
         refine withJoin (σ := LI) (fun s => (⟨155, [e46_8 w, e46_1 w, s1 6 (.fn 86 [(⟨tI, ((w.length : Int) + (1 : Int))⟩ : Dat)]), e46_5, sp 9 9, e46_7, e46_4 l, e46_3 l, sI 24 v24, s1 46 (.pS w), e46_18 w, sI 48 v48], [e46_0 l v24, hA 29 39 (.int .u32) s, e46_2 all]⟩ : St)) (fun s => VC46_k6 v48 X3 s) (fun rv2 h => ?_) (fun rest6 => ?_)
         ·have h : VC46_k6 v48 X3 rv2 := h
          unfold VC46_k6 at h
          refine blockQ_n ?_
          refine thenQ_n ?_
          refine aw_region ?_
          obtain ⟨o1, h⟩ := h
          refine rq 2 (ob := (InR (v48 + (1 : Int)) ∧ Ts 1 True)) (st' := (⟨155, [e46_8 w, e46_1 w, s1 6 (.fn 86 [(⟨tI, ((w.length : Int) + (1 : Int))⟩ : Dat)]), e46_5, sp 9 9, e46_7, e46_4 l, e46_3 l, sI 24 v24, s1 46 (.pS w), e46_18 w, sI 48 (v48 + (1 : Int))], [e46_0 l v24, e46_19 rv2, e46_2 all]⟩ : St)) (by kernel_rfl) (⟨o1, tsI 1 trivial⟩) ?_
          refine awl_nil ?_
          exact thenQ_n ⟨((v48 + (1 : Int)), rv2), rfl, h⟩
         ·refine aw_cond (b := (decide ((w.getD (v48).toNat (0 : Int)) = (l.getD (v24).toNat z3).2.1))) (by kernel_rfl) (fun hb => ?_) (fun hb => ?_)
          ·have h := h.1 hb
           refine aw_region ?_
           obtain ⟨o1, o2, o3, h⟩ := h
           refine rq 7 (ob := (Ts 3 (InR (v48 + (1 : Int)) ∧ 0 ≤ (v48 + (1 : Int)) ∧ inIdx v48 rv.length ∧ Ts 1 True))) (st' := (⟨155, [e46_8 w, e46_1 w, s1 6 (.fn 86 [(⟨tI, ((w.length : Int) + (1 : Int))⟩ : Dat)]), e46_5, sp 9 9, e46_7, e46_4 l, e46_3 l, sI 24 v24, s1 46 (.pS w), e46_18 w, sI 48 v48], [e46_0 l v24, hA 29 39 (.int .u32) (rv.set ((v48).toNat) (bShl .u32 (1 : Int) (v48 + (1 : Int)))), e46_2 all]⟩ : St)) (by kernel_rfl) (tsI 3 (⟨o1, ⟨o2, ⟨o3, tsI 1 trivial⟩⟩⟩)) ?_
           refine awl_nil ?_
           exact rest6 (rv.set ((v48).toNat) (bShl .u32 (1 : Int) (v48 + (1 : Int)))) h
          ·have h := h.2 hb
           refine cpr (st' := (⟨155, [e46_8 w, e46_1 w, s1 6 (.fn 86 [(⟨tI, ((w.length : Int) + (1 : Int))⟩ : Dat)]), e46_5, sp 9 9, e46_7, e46_4 l, e46_3 l, sI 24 v24, s1 46 (.pS w), e46_18 w, sI 48 v48], [e46_0 l v24, e46_11 rv, e46_2 all]⟩ : St)) (by kernel_rfl) ?_
           refine aw_skip ?_
           exact rest6 rv h
        ·have h := h.2 hb
         refine cpr (st' := (⟨155, [e46_8 w, e46_1 w, s1 6 (.fn 86 [(⟨tI, ((w.length : Int) + (1 : Int))⟩ : Dat)]), e46_5, e46_7, e46_4 l, e46_3 l, sI 24 v24], [e46_11 rv, e46_2 all]⟩ : St)) (by kernel_rfl) ?_
         refine aw_exit ?_
         refine thenQ_x ?_
         refine thenQ_x ?_
         refine blockQ_hit ?_
         exact rest5 rv h
      ·have h := h.2 hb
       refine srn 2 ⟨155, [e46_8 w, e46_1 w, s1 6 (.fn 86 [(⟨tI, ((w.length : Int) + (1 : Int))⟩ : Dat)]), e46_5, sp 9 9, e46_7, e46_4 l, e46_3 l, sI 24 v24, e46_21 l v24, sB 64 (decide ((l.getD (v24).toNat z3).1 = (4 : Int)))], [e46_0 l v24, e46_6 w, e46_2 all]⟩ (by kernel_rfl) rfl ?_
       refine withJoin (σ := LI) (fun s => (⟨155, [e46_8 w, e46_1 w, s1 6 (.fn 86 [(⟨tI, ((w.length : Int) + (1 : Int))⟩ : Dat)]), e46_5, e46_7, e46_4 l, e46_3 l, sI 24 v24], [hA 29 39 (.int .u32) s, e46_2 all]⟩ : St)) (fun s => VC46_k7 v24 all X1 s) (fun rv h => ?_) (fun rest7 => ?_)
       ·have h : VC46_k7 v24 all X1 rv := h
        unfold VC46_k7 at h
        exact rest4 rv h
       ·refine aw_cond (b := (decide ((l.getD (v24).toNat z3).1 = (4 : Int)))) (by kernel_rfl) (fun hb => ?_) (fun hb => ?_)
        ·have h := h.1 hb
         refine awd_begin [] (by kernel_rfl) ?_
         obtain ⟨o1, o2, h⟩ := h
         refine drq (by kernel_rfl) [0, 1, 2, 3, 4, 5, 6, 7, 8, 9, 10] (ob := (Ts 4 (inIdx ((l.getD (v24).toNat z3).2.1) all.length ∧ Ts 4 (inIdx ((l.getD (v24).toNat z3).2.2) all.length ∧ Ts 1 True)))) (done' := [10, 9, 8, 7, 6, 5, 4, 3, 2, 1, 0]) (st' := (⟨155, [e46_8 w, e46_1 w, s1 6 (.fn 86 [(⟨tI, ((w.length : Int) + (1 : Int))⟩ : Dat)]), e46_5, e46_7, e46_4 l, e46_3 l, sI 24 v24, s1 66 (.fn 86 [(⟨tI, ((w.length : Int) + (1 : Int))⟩ : Dat)]), s1 71 (.p (.sl (.int .u32)) (all.getD (((l.getD (v24).toNat z3).2.1).toNat) ([] : LI))), s1 76 (.p (.sl (.int .u32)) (all.getD (((l.getD (v24).toNat z3).2.2).toNat) ([] : LI)))], [e46_6 w, e46_2 all]⟩ : St)) (by kernel_rfl) (tsI 4 (⟨o1, tsI 4 ⟨o2, tsI 1 trivial⟩⟩)) ?_
         refine awd_one (i := 11) (by kernel_rfl) ?_
         refine adop_callOk (e := 39) (t := (.int .u32)) (l := [toV1 (.sl (.int .u32)) (all.getD (((l.getD (v24).toNat z3).2.1).toNat) ([] : LI)), toV1 (.sl (.int .u32)) (all.getD (((l.getD (v24).toNat z3).2.2).toNat) ([] : LI))]) (cl := [.c (.ad tI ((w.length : Int) + (1 : Int)))]) false [.d (.sl (.int .u32)), .d (.sl (.int .u32))] [1, 5, 6, 7, 10, 22, 23, 24, 77] [29, 77, 5007] (fun (ret77v : LI) => VC46_k7 v24 all X1 ret77v) (fun ret77v => (⟨155, [e46_8 w, e46_1 w, s1 6 (.fn 86 [(⟨tI, ((w.length : Int) + (1 : Int))⟩ : Dat)]), e46_5, e46_7, e46_4 l, e46_3 l, sI 24 v24, s1 77 (.own 77)], [e46_6 w, hA 77 39 (.int .u32) ret77v, e46_2 all]⟩ : St)) rfl rfl rfl (by kernel_rfl) rfl (by kernel_rfl) Try.call86 (by kernel_rfl) (fun e => by cases e) (fun ret77v => by kernel_rfl) (link86 (all.getD (((l.getD (v24).toNat z3).2.1).toNat) ([] : LI)) (all.getD (((l.getD (v24).toNat z3).2.2).toNat) ([] : LI)) ((w.length : Int) + (1 : Int)) _ h) (fun ret77v h => ?_)
         refine drq (by kernel_rfl) [12] (ob := (Ts 1 True)) (done' := [12, 11, 10, 9, 8, 7, 6, 5, 4, 3, 2, 1, 0]) (st' := (⟨155, [e46_8 w, e46_1 w, s1 6 (.fn 86 [(⟨tI, ((w.length : Int) + (1 : Int))⟩ : Dat)]), e46_5, s1 10 (.own 77), e46_4 l, e46_3 l, sI 24 v24], [hA 77 39 (.int .u32) ret77v, e46_2 all]⟩ : St)) (by kernel_rfl) (tsI 1 trivial) ?_
         refine awd_end [.ren 77 20077, .ren 20077 29] (st' := (⟨155, [e46_8 w, e46_1 w, s1 6 (.fn 86 [(⟨tI, ((w.length : Int) + (1 : Int))⟩ : Dat)]), e46_5, e46_7, e46_4 l, e46_3 l, sI 24 v24], [hA 29 39 (.int .u32) ret77v, e46_2 all]⟩ : St)) (by kernel_rfl) (by kernel_rfl) ?_
         exact rest7 ret77v h
        ·have h := h.2 hb
         refine srn 2 ⟨155, [e46_8 w, e46_1 w, s1 6 (.fn 86 [(⟨tI, ((w.length : Int) + (1 : Int))⟩ : Dat)]), e46_5, sp 9 9, e46_7, e46_4 l, e46_3 l, sI 24 v24, e46_21 l v24, sB 78 (decide ((l.getD (v24).toNat z3).1 = (5 : Int)))], [e46_0 l v24, e46_6 w, e46_2 all]⟩ (by kernel_rfl) rfl ?_
         refine withJoin (σ := LI) (fun s => (⟨155, [e46_8 w, e46_1 w, s1 6 (.fn 86 [(⟨tI, ((w.length : Int) + (1 : Int))⟩ : Dat)]), e46_5, e46_7, e46_4 l, e46_3 l, sI 24 v24], [hA 29 39 (.int .u32) s, e46_2 all]⟩ : St)) (fun s => VC46_k8 v24 all X1 s) (fun rv h => ?_) (fun rest8 => ?_)
         ·have h : VC46_k8 v24 all X1 rv := h
          unfold VC46_k8 at h
          exact rest7 rv h
         ·refine aw_cond (b := (decide ((l.getD (v24).toNat z3).1 = (5 : Int)))) (by kernel_rfl) (fun hb => ?_) (fun hb => ?_)
          ·have h := h.1 hb
           refine srn 2 ⟨155, [e46_8 w, e46_1 w, s1 6 (.fn 86 [(⟨tI, ((w.length : Int) + (1 : Int))⟩ : Dat)]), e46_5, sp 9 9, e46_7, e46_4 l, e46_3 l, sI 24 v24, e46_15 w, sI 81 (0 : Int)], [e46_0 l v24, e46_6 w, e46_2 all]⟩ (by kernel_rfl) rfl ?_
           refine withJoin (σ := LI) (fun s => (⟨155, [e46_8 w, e46_1 w, s1 6 (.fn 86 [(⟨tI, ((w.length : Int) + (1 : Int))⟩ : Dat)]), e46_5, e46_7, e46_4 l, e46_3 l, sI 24 v24], [hA 29 39 (.int .u32) s, e46_2 all]⟩ : St)) (fun s => VC46_k9 v24 all X1 s) (fun rv h => ?_) (fun rest9 => ?_)
           ·have h : VC46_k9 v24 all X1 rv := h
            unfold VC46_k9 at h
            exact rest8 rv h
           ·refine aw_block ?_
            refine aw_loop (σ := Int × LI) (fun s => (⟨155, [e46_8 w, e46_1 w, s1 6 (.fn 86 [(⟨tI, ((w.length : Int) + (1 : Int))⟩ : Dat)]), e46_5, sp 9 9, e46_7, e46_4 l, e46_3 l, sI 24 v24, e46_15 w, sI 81 s.1], [e46_0 l v24, hA 29 39 (.int .u32) s.2, e46_2 all]⟩ : St)) (fun s X => VC46_l4 l w v24 all X1 s.1 s.2 X) (s0 := ((0 : Int), (List.replicate (((w.length : Int) + (1 : Int))).toNat (0 : Int)))) (fun s X4 h => ?_) h
            obtain ⟨v81, rv⟩ := s
            have h : VC46_l4 l w v24 all X1 v81 rv X4 := h
            unfold VC46_l4 at h
            refine srn 1 ⟨155, [e46_8 w, e46_1 w, s1 6 (.fn 86 [(⟨tI, ((w.length : Int) + (1 : Int))⟩ : Dat)]), e46_5, sp 9 9, e46_7, e46_4 l, e46_3 l, sI 24 v24, e46_15 w, sI 81 v81, sB 82 (decide (v81 < ((w.length : Int) + (1 : Int))))], [e46_0 l v24, e46_11 rv, e46_2 all]⟩ (by kernel_rfl) rfl ?_
            refine aw_seq ?_
            refine aw_cond (b := (decide (v81 < ((w.length : Int) + (1 : Int))))) (by kernel_rfl) (fun hb => ?_) (fun hb => ?_)
            ·have h := h.1 hb
             refine aw_skip ?_
             refine thenQ_n ?_
             refine aw_seq ?_
             refine aw_block ?_
             refine srn 2 ⟨155, [e46_8 w, e46_1 w, s1 6 (.fn 86 [(⟨tI, ((w.length : Int) + (1 : Int))⟩ : Dat)]), e46_5, sp 9 9, e46_7, sI 14 v81, e46_4 l, e46_3 l, sI 24 v24, e46_15 w, sI 81 v81], [e46_0 l v24, e46_11 rv, e46_2 all]⟩ (by kernel_rfl) rfl ?_
             refine awd_begin [29] (by kernel_rfl) ?_
             obtain ⟨o1, o2, o3, o4, o5, h⟩ := h
             refine drq (by kernel_rfl) [0, 1, 2, 3, 4, 5, 6, 7, 8, 9, 10, 11, 12, 13, 14, 15, 16, 17, 18, 19] (ob := (Ts 5 (inIdx ((l.getD (v24).toNat z3).2.1) all.length ∧ Ts 2 (inIdx v81 (all.getD (((l.getD (v24).toNat z3).2.1).toNat) ([] : LI)).length ∧ Ts 4 (inIdx ((l.getD (v24).toNat z3).2.2) all.length ∧ Ts 2 (inIdx v81 (all.getD (((l.getD (v24).toNat z3).2.2).toNat) ([] : LI)).length ∧ Ts 2 (inIdx v81 rv.length ∧ True))))))) (done' := [19, 18, 17, 16, 15, 14, 13, 12, 11, 10, 9, 8, 7, 6, 5, 4, 3, 2, 1, 0]) (st' := (⟨155, [e46_8 w, e46_1 w, s1 6 (.fn 86 [(⟨tI, ((w.length : Int) + (1 : Int))⟩ : Dat)]), e46_5, sp 9 9, e46_7, e46_4 l, e46_3 l, sI 24 v24, e46_15 w, sI 81 v81, s1 102 (.pW (bOr .u32 ((all.getD (((l.getD (v24).toNat z3).2.1).toNat) ([] : LI)).getD (v81).toNat (0 : Int)) ((all.getD (((l.getD (v24).toNat z3).2.2).toNat) ([] : LI)).getD (v81).toNat (0 : Int)))), s1 103 (.el 29 ((v81).toNat) 1)], [e46_0 l v24, e46_11 rv, e46_2 all]⟩ : St)) (by kernel_rfl) (tsI 5 (⟨o1, tsI 2 (⟨o2, tsI 4 (⟨o3, tsI 2 (⟨o4, tsI 2 ⟨o5, trivial⟩⟩)⟩)⟩)⟩)) ?_
             refine awd_one (i := 20) (by kernel_rfl) ?_
             refine dsq (ob := True) (st' := (⟨155, [e46_8 w, e46_1 w, s1 6 (.fn 86 [(⟨tI, ((w.length : Int) + (1 : Int))⟩ : Dat)]), e46_5, sp 9 9, e46_7, e46_4 l, e46_3 l, sI 24 v24, e46_15 w, sI 81 v81], [e46_0 l v24, e46_10 rv v81 all l v24, e46_2 all]⟩ : St)) rfl (by kernel_rfl) trivial ?_
             refine awd_done (by kernel_rfl) ?_
             refine blockQ_n ?_
             refine thenQ_n ?_
             refine aw_region ?_
             obtain ⟨o1, h⟩ := h
             refine rq 2 (ob := (InR (v81 + (1 : Int)) ∧ Ts 1 True)) (st' := (⟨155, [e46_8 w, e46_1 w, s1 6 (.fn 86 [(⟨tI, ((w.length : Int) + (1 : Int))⟩ : Dat)]), e46_5, sp 9 9, e46_7, e46_4 l, e46_3 l, sI 24 v24, e46_15 w, sI 81 (v81 + (1 : Int))], [e46_0 l v24, e46_10 rv v81 all l v24, e46_2 all]⟩ : St)) (by kernel_rfl) (⟨o1, tsI 1 trivial⟩) ?_
             refine awl_nil ?_
             exact thenQ_n ⟨((v81 + (1 : Int)), (rv.set ((v81).toNat) (bOr .u32 ((all.getD (((l.getD (v24).toNat z3).2.1).toNat) ([] : LI)).getD (v81).toNat (0 : Int)) ((all.getD (((l.getD (v24).toNat z3).2.2).toNat) ([] : LI)).getD (v81).toNat (0 : Int))))), rfl, h⟩
            ·have h := h.2 hb
             refine cpr (st' := (⟨155, [e46_8 w, e46_1 w, s1 6 (.fn 86 [(⟨tI, ((w.length : Int) + (1 : Int))⟩ : Dat)]), e46_5, e46_7, e46_4 l, e46_3 l, sI 24 v24], [e46_11 rv, e46_2 all]⟩ : St)) (by kernel_rfl) ?_
             refine aw_exit ?_
             refine thenQ_x ?_
             refine thenQ_x ?_
             refine blockQ_hit ?_
             exact rest9 rv h
          ·have h := h.2 hb
           refine srn 2 ⟨155, [e46_8 w, e46_1 w, s1 6 (.fn 86 [(⟨tI, ((w.length : Int) + (1 : Int))⟩ : Dat)]), e46_5, sp 9 9, e46_7, e46_4 l, e46_3 l, sI 24 v24, sB 105 (decide ((l.getD (v24).toNat z3).1 = (6 : Int)))], [e46_0 l v24, e46_6 w, e46_2 all]⟩ (by kernel_rfl) rfl ?_
           refine withJoin (σ := LI) (fun s => (⟨155, [e46_8 w, e46_1 w, s1 6 (.fn 86 [(⟨tI, ((w.length : Int) + (1 : Int))⟩ : Dat)]), e46_5, e46_7, e46_4 l, e46_3 l, sI 24 v24], [hA 29 39 (.int .u32) s, e46_2 all]⟩ : St)) (fun s => VC46_k10 v24 all X1 s) (fun rv h => ?_) (fun rest10 => ?_)
           ·have h : VC46_k10 v24 all X1 rv := h
            unfold VC46_k10 at h
            exact rest8 rv h
           ·refine aw_cond (b := (decide ((l.getD (v24).toNat z3).1 = (6 : Int)))) (by kernel_rfl) (fun hb => ?_) (fun hb => ?_)
            ·have h := h.1 hb
             refine aw_seq ?_
             refine srn 2 ⟨155, [e46_8 w, e46_1 w, s1 6 (.fn 86 [(⟨tI, ((w.length : Int) + (1 : Int))⟩ : Dat)]), e46_5, sp 9 9, e46_7, e46_4 l, e46_3 l, sI 24 v24, e46_16 w, sI 108 (0 : Int)], [e46_0 l v24, e46_6 w, e46_2 all]⟩ (by kernel_rfl) rfl ?_
             refine withJoin (σ := LI) (fun s => (⟨155, [e46_8 w, e46_1 w, s1 6 (.fn 86 [(⟨tI, ((w.length : Int) + (1 : Int))⟩ : Dat)]), e46_5, sp 9 9, e46_7, e46_4 l, e46_3 l, sI 24 v24], [e46_0 l v24, hA 29 39 (.int .u32) s, e46_2 all]⟩ : St)) (fun s => VC46_k11 l w v24 all X1 s) (fun rv h => ?_) (fun rest13 => ?_)
             ·have h : VC46_k11 l w v24 all X1 rv := h
              unfold VC46_k11 at h
              refine thenQ_n ?_
              refine srn 2 ⟨155, [e46_8 w, e46_1 w, s1 6 (.fn 86 [(⟨tI, ((w.length : Int) + (1 : Int))⟩ : Dat)]), e46_5, sp 9 9, e46_7, e46_4 l, e46_3 l, sI 24 v24, e46_9 w, sI 118 (0 : Int)], [e46_0 l v24, e46_11 rv, e46_2 all]⟩ (by kernel_rfl) rfl ?_
              refine withJoin (σ := LI) (fun s => (⟨155, [e46_8 w, e46_1 w, s1 6 (.fn 86 [(⟨tI, ((w.length : Int) + (1 : Int))⟩ : Dat)]), e46_5, e46_7, e46_4 l, e46_3 l, sI 24 v24], [hA 29 39 (.int .u32) s, e46_2 all]⟩ : St)) (fun s => VC46_k12 v24 all X1 s) (fun rv2 h => ?_) (fun rest11 => ?_)
              ·have h : VC46_k12 v24 all X1 rv2 := h
               unfold VC46_k12 at h
               exact rest10 rv2 h
              ·refine aw_block ?_
               refine aw_loop (σ := Int × LI) (fun s => (⟨155, [e46_8 w, e46_1 w, s1 6 (.fn 86 [(⟨tI, ((w.length : Int) + (1 : Int))⟩ : Dat)]), e46_5, sp 9 9, e46_7, e46_4 l, e46_3 l, sI 24 v24, e46_9 w, sI 118 s.1], [e46_0 l v24, hA 29 39 (.int .u32) s.2, e46_2 all]⟩ : St)) (fun s X => VC46_l5 l w v24 all X1 s.1 s.2 X) (s0 := ((0 : Int), rv)) (fun s X5 h => ?_) h
               obtain ⟨v118, rv2⟩ := s
               have h : VC46_l5 l w v24 all X1 v118 rv2 X5 := h
               unfold VC46_l5 at h
               refine srn 1 ⟨155, [e46_8 w, e46_1 w, s1 6 (.fn 86 [(⟨tI, ((w.length : Int) + (1 : Int))⟩ : Dat)]), e46_5, sp 9 9, e46_7, e46_4 l, e46_3 l, sI 24 v24, e46_9 w, sI 118 v118, sB 119 (decide (v118 < ((w.length : Int) + (1 : Int))))], [e46_0 l v24, e46_19 rv2, e46_2 all]⟩ (by kernel_rfl) rfl ?_
               refine aw_seq ?_
               refine aw_cond (b := (decide (v118 < ((w.length : Int) + (1 : Int))))) (by kernel_rfl) (fun hb => ?_) (fun hb => ?_)
               ·have h := h.1 hb
                refine aw_skip ?_
                refine thenQ_n ?_
                refine aw_seq ?_
                refine aw_block ?_
                refine sr ?_
                obtain ⟨o1, h⟩ := h
                refine rq 7 (ob := (Ts 5 (inIdx ((l.getD (v24).toNat z3).2.1) all.length ∧ Ts 1 True))) (st' := (⟨155, [e46_8 w, e46_1 w, s1 6 (.fn 86 [(⟨tI, ((w.length : Int) + (1 : Int))⟩ : Dat)]), e46_5, sp 9 9, e46_7, e46_4 l, e46_3 l, sI 24 v24, e46_9 w, sI 118 v118, s1 120 (.fn 86 [(⟨tI, ((w.length : Int) + (1 : Int))⟩ : Dat)]), s1 121 (.own 29), s1 126 (.p (.sl (.int .u32)) (all.getD (((l.getD (v24).toNat z3).2.1).toNat) ([] : LI)))], [e46_0 l v24, e46_19 rv2, e46_2 all]⟩ : St)) (by kernel_rfl) (tsI 5 ⟨o1, tsI 1 trivial⟩) ?_
                refine awl_callOk (e := 39) (t := (.int .u32)) (l := [toV1 (.sl (.int .u32)) rv2, toV1 (.sl (.int .u32)) (all.getD (((l.getD (v24).toNat z3).2.1).toNat) ([] : LI))]) (cl := [.c (.ad tI ((w.length : Int) + (1 : Int)))]) true [.d (.sl (.int .u32)), .d (.sl (.int .u32))] [1, 5, 6, 7, 9, 10, 22, 23, 24, 117, 118, 127] [9, 29, 127, 5007] (fun (ret127v : LI) => Loop (σ := Int × LI) (fun s X => VC46_l6 w v118 X5 ret127v s.1 s.2 X) ((0 : Int), rv2)) (fun ret127v => (⟨155, [e46_8 w, e46_1 w, s1 6 (.fn 86 [(⟨tI, ((w.length : Int) + (1 : Int))⟩ : Dat)]), e46_5, sp 9 9, e46_7, e46_4 l, e46_3 l, sI 24 v24, e46_9 w, sI 118 v118, s1 127 (.own 127)], [e46_0 l v24, e46_19 rv2, e46_13 ret127v, e46_2 all]⟩ : St)) rfl rfl (by kernel_rfl) rfl (by kernel_rfl) Try.call86 (by kernel_rfl) (fun _ => rfl) (fun ret127v => by kernel_rfl) (link86 rv2 (all.getD (((l.getD (v24).toNat z3).2.1).toNat) ([] : LI)) ((w.length : Int) + (1 : Int)) _ h) (fun ret127v h => ?_)
                refine rqT 1 ⟨155, [e46_8 w, e46_1 w, s1 6 (.fn 86 [(⟨tI, ((w.length : Int) + (1 : Int))⟩ : Dat)]), e46_5, sp 9 9, e46_7, e46_22, e46_4 l, e46_3 l, sI 24 v24, e46_9 w, sI 118 v118], [e46_0 l v24, e46_19 rv2, e46_13 ret127v, e46_2 all]⟩ (by kernel_rfl) ?_
                refine nsr ?_
                refine rqT 2 ⟨155, [e46_8 w, e46_1 w, s1 6 (.fn 86 [(⟨tI, ((w.length : Int) + (1 : Int))⟩ : Dat)]), e46_5, sp 9 9, e46_7, e46_22, e46_4 l, e46_3 l, sI 24 v24, e46_9 w, sI 118 v118, e46_12 w, sI 129 (0 : Int)], [e46_0 l v24, e46_19 rv2, e46_13 ret127v, e46_2 all]⟩ (by kernel_rfl) ?_
                refine nn ?_
                refine withJoin (σ := LI) (fun s => (⟨155, [e46_8 w, e46_1 w, s1 6 (.fn 86 [(⟨tI, ((w.length : Int) + (1 : Int))⟩ : Dat)]), e46_5, sp 9 9, e46_7, e46_4 l, e46_3 l, sI 24 v24, e46_9 w, sI 118 v118], [e46_0 l v24, hA 29 39 (.int .u32) s, e46_2 all]⟩ : St)) (fun s => VC46_k13 v118 X5 s) (fun rv3 h => ?_) (fun rest12 => ?_)
                ·have h : VC46_k13 v118 X5 rv3 := h
                 unfold VC46_k13 at h
                 refine blockQ_n ?_
                 refine thenQ_n ?_
                 refine aw_region ?_
                 obtain ⟨o1, h⟩ := h
                 refine rq 2 (ob := (InR (v118 + (1 : Int)) ∧ Ts 1 True)) (st' := (⟨155, [e46_8 w, e46_1 w, s1 6 (.fn 86 [(⟨tI, ((w.length : Int) + (1 : Int))⟩ : Dat)]), e46_5, sp 9 9, e46_7, e46_4 l, e46_3 l, sI 24 v24, e46_9 w, sI 118 (v118 + (1 : Int))], [e46_0 l v24, e46_20 rv3, e46_2 all]⟩ : St)) (by kernel_rfl) (⟨o1, tsI 1 trivial⟩) ?_
                 refine awl_nil ?_
                 exact thenQ_n ⟨((v118 + (1 : Int)), rv3), rfl, h⟩
                ·refine aw_block ?_
                 refine aw_loop (σ := Int × LI) (fun s => (⟨155, [e46_8 w, e46_1 w, s1 6 (.fn 86 [(⟨tI, ((w.length : Int) + (1 : Int))⟩ : Dat)]), e46_5, sp 9 9, e46_7, e46_22, e46_4 l, e46_3 l, sI 24 v24, e46_9 w, sI 118 v118, e46_12 w, sI 129 s.1], [e46_0 l v24, hA 29 39 (.int .u32) s.2, e46_13 ret127v, e46_2 all]⟩ : St)) (fun s X => VC46_l6 w v118 X5 ret127v s.1 s.2 X) (s0 := ((0 : Int), rv2)) (fun s X6 h => ?_) h
                 obtain ⟨v129, rv3⟩ := s
                 have h : VC46_l6 w v118 X5 ret127v v129 rv3 X6 := h
                 unfold VC46_l6 at h
                 refine srn 1 ⟨155, [e46_8 w, e46_1 w, s1 6 (.fn 86 [(⟨tI, ((w.length : Int) + (1 : Int))⟩ : Dat)]), e46_5, sp 9 9, e46_7, e46_22, e46_4 l, e46_3 l, sI 24 v24, e46_9 w, sI 118 v118, e46_12 w, sI 129 v129, sB 130 (decide (v129 < ((w.length : Int) + (1 : Int))))], [e46_0 l v24, e46_20 rv3, e46_13 ret127v, e46_2 all]⟩ (by kernel_rfl) rfl ?_
                 refine aw_seq ?_
                 refine aw_cond (b := (decide (v129 < ((w.length : Int) + (1 : Int))))) (by kernel_rfl) (fun hb => ?_) (fun hb => ?_)
                 ·have h := h.1 hb
                  refine aw_skip ?_
                  refine thenQ_n ?_
                  refine aw_seq ?_
                  refine aw_block ?_
                  refine srn 2 ⟨155, [e46_8 w, e46_1 w, s1 6 (.fn 86 [(⟨tI, ((w.length : Int) + (1 : Int))⟩ : Dat)]), e46_5, sp 9 9, e46_7, e46_22, sI 17 v129, e46_4 l, e46_3 l, sI 24 v24, e46_9 w, sI 118 v118, e46_12 w, sI 129 v129], [e46_0 l v24, e46_20 rv3, e46_13 ret127v, e46_2 all]⟩ (by kernel_rfl) rfl ?_
                  refine awd_begin [29] (by kernel_rfl) ?_
                  obtain ⟨o1, o2, h⟩ := h
                  refine drq (by kernel_rfl) [0, 1, 2, 4, 5, 6, 7] (ob := (Ts 2 (inIdx v129 rv3.length ∧ Ts 2 (inIdx v129 ret127v.length ∧ Ts 1 True)))) (done' := [7, 6, 5, 4, 2, 1, 0]) (st' := (⟨155, [e46_8 w, e46_1 w, s1 6 (.fn 86 [(⟨tI, ((w.length : Int) + (1 : Int))⟩ : Dat)]), e46_5, sp 9 9, e46_7, e46_22, e46_4 l, e46_3 l, sI 24 v24, e46_9 w, sI 118 v118, e46_12 w, sI 129 v129, s1 132 (.own 29), sI 133 v129, s1 134 (.el 29 ((v129).toNat) 1), s1 139 (.pW (ret127v.getD ((v129).toNat) (0 : Int)))], [e46_0 l v24, e46_20 rv3, e46_13 ret127v, e46_2 all]⟩ : St)) (by kernel_rfl) (tsI 2 (⟨o1, tsI 2 ⟨o2, tsI 1 trivial⟩⟩)) ?_
                  refine awd_one (i := 3) (by kernel_rfl) ?_
                  refine dsq (ob := True) (st' := (⟨155, [e46_8 w, e46_1 w, s1 6 (.fn 86 [(⟨tI, ((w.length : Int) + (1 : Int))⟩ : Dat)]), e46_5, sp 9 9, e46_7, e46_22, e46_4 l, e46_3 l, sI 24 v24, e46_9 w, sI 118 v118, e46_12 w, sI 129 v129, s1 132 (.own 29), sI 133 v129, s1 135 (.pW (rv3.getD ((v129).toNat) (0 : Int))), s1 139 (.pW (ret127v.getD ((v129).toNat) (0 : Int)))], [e46_0 l v24, e46_20 rv3, e46_13 ret127v, e46_2 all]⟩ : St)) rfl (by kernel_rfl) trivial ?_
                  obtain ⟨o1, h⟩ := h
                  refine drq (by kernel_rfl) [8, 9] (ob := (Ts 1 (inIdx v129 rv3.length ∧ True))) (done' := [9, 8, 3, 7, 6, 5, 4, 2, 1, 0]) (st' := (⟨155, [e46_8 w, e46_1 w, s1 6 (.fn 86 [(⟨tI, ((w.length : Int) + (1 : Int))⟩ : Dat)]), e46_5, sp 9 9, e46_7, e46_22, e46_4 l, e46_3 l, sI 24 v24, e46_9 w, sI 118 v118, e46_12 w, sI 129 v129, s1 140 (.pW (bOr .u32 (rv3.getD ((v129).toNat) (0 : Int)) (ret127v.getD ((v129).toNat) (0 : Int)))), s1 141 (.el 29 ((v129).toNat) 1)], [e46_0 l v24, e46_20 rv3, e46_13 ret127v, e46_2 all]⟩ : St)) (by kernel_rfl) (tsI 1 ⟨o1, trivial⟩) ?_
                  refine awd_one (i := 10) (by kernel_rfl) ?_
                  refine dsq (ob := True) (st' := (⟨155, [e46_8 w, e46_1 w, s1 6 (.fn 86 [(⟨tI, ((w.length : Int) + (1 : Int))⟩ : Dat)]), e46_5, sp 9 9, e46_7, e46_22, e46_4 l, e46_3 l, sI 24 v24, e46_9 w, sI 118 v118, e46_12 w, sI 129 v129], [e46_0 l v24, e46_14 rv3 v129 ret127v, e46_13 ret127v, e46_2 all]⟩ : St)) rfl (by kernel_rfl) trivial ?_
                  refine awd_done (by kernel_rfl) ?_
                  refine blockQ_n ?_
                  refine thenQ_n ?_
                  refine aw_region ?_
                  obtain ⟨o1, h⟩ := h
                  refine rq 2 (ob := (InR (v129 + (1 : Int)) ∧ Ts 1 True)) (st' := (⟨155, [e46_8 w, e46_1 w, s1 6 (.fn 86 [(⟨tI, ((w.length : Int) + (1 : Int))⟩ : Dat)]), e46_5, sp 9 9, e46_7, e46_22, e46_4 l, e46_3 l, sI 24 v24, e46_9 w, sI 118 v118, e46_12 w, sI 129 (v129 + (1 : Int))], [e46_0 l v24, e46_14 rv3 v129 ret127v, e46_13 ret127v, e46_2 all]⟩ : St)) (by kernel_rfl) (⟨o1, tsI 1 trivial⟩) ?_
                  refine awl_nil ?_
                  exact thenQ_n ⟨((v129 + (1 : Int)), (rv3.set ((v129).toNat) (bOr .u32 (rv3.getD ((v129).toNat) (0 : Int)) (ret127v.getD ((v129).toNat) (0 : Int))))), rfl, h⟩
                 ·have h := h.2 hb
                  refine cpr (st' := (⟨155, [e46_8 w, e46_1 w, s1 6 (.fn 86 [(⟨tI, ((w.length : Int) + (1 : Int))⟩ : Dat)]), e46_5, sp 9 9, e46_7, e46_4 l, e46_3 l, sI 24 v24, e46_9 w, sI 118 v118], [e46_0 l v24, e46_20 rv3, e46_2 all]⟩ : St)) (by kernel_rfl) ?_
                  refine aw_exit ?_
                  refine thenQ_x ?_
                  refine thenQ_x ?_
                  refine blockQ_hit ?_
                  exact rest12 rv3 h
               ·have h := h.2 hb
                refine cpr (st' := (⟨155, [e46_8 w, e46_1 w, s1 6 (.fn 86 [(⟨tI, ((w.length : Int) + (1 : Int))⟩ : Dat)]), e46_5, e46_7, e46_4 l, e46_3 l, sI 24 v24], [e46_19 rv2, e46_2 all]⟩ : St)) (by kernel_rfl) ?_
                refine aw_exit ?_
                refine thenQ_x ?_
                refine thenQ_x ?_
                refine blockQ_hit ?_
                exact rest11 rv2 h
             ·refine aw_block ?_
              refine aw_loop (σ := Int × LI) (fun s => (⟨155, [e46_8 w, e46_1 w, s1 6 (.fn 86 [(⟨tI, ((w.length : Int) + (1 : Int))⟩ : Dat)]), e46_5, sp 9 9, e46_7, e46_4 l, e46_3 l, sI 24 v24, e46_16 w, sI 108 s.1], [e46_0 l v24, hA 29 39 (.int .u32) s.2, e46_2 all]⟩ : St)) (fun s X => VC46_l7 l w v24 all X1 s.1 s.2 X) (s0 := ((0 : Int), (List.replicate (((w.length : Int) + (1 : Int))).toNat (0 : Int)))) (fun s X7 h => ?_) h
              obtain ⟨v108, rv⟩ := s
              have h : VC46_l7 l w v24 all X1 v108 rv X7 := h
              unfold VC46_l7 at h
              refine srn 1 ⟨155, [e46_8 w, e46_1 w, s1 6 (.fn 86 [(⟨tI, ((w.length : Int) + (1 : Int))⟩ : Dat)]), e46_5, sp 9 9, e46_7, e46_4 l, e46_3 l, sI 24 v24, e46_16 w, sI 108 v108, sB 109 (decide (v108 < ((w.length : Int) + (1 : Int))))], [e46_0 l v24, e46_11 rv, e46_2 all]⟩ (by kernel_rfl) rfl ?_
              refine aw_seq ?_
              refine aw_cond (b := (decide (v108 < ((w.length : Int) + (1 : Int))))) (by kernel_rfl) (fun hb => ?_) (fun hb => ?_)
              ·have h := h.1 hb
               refine aw_skip ?_
               refine thenQ_n ?_
               refine aw_seq ?_
               refine aw_block ?_
               refine srn 2 ⟨155, [e46_8 w, e46_1 w, s1 6 (.fn 86 [(⟨tI, ((w.length : Int) + (1 : Int))⟩ : Dat)]), e46_5, sp 9 9, e46_7, sI 15 v108, e46_4 l, e46_3 l, sI 24 v24, e46_16 w, sI 108 v108], [e46_0 l v24, e46_11 rv, e46_2 all]⟩ (by kernel_rfl) rfl ?_
               refine aw_region ?_
               obtain ⟨o1, o2, h⟩ := h
               refine rq 6 (ob := (Ts 3 (0 ≤ v108 ∧ inIdx v108 rv.length ∧ Ts 1 True))) (st' := (⟨155, [e46_8 w, e46_1 w, s1 6 (.fn 86 [(⟨tI, ((w.length : Int) + (1 : Int))⟩ : Dat)]), e46_5, sp 9 9, e46_7, e46_4 l, e46_3 l, sI 24 v24, e46_16 w, sI 108 v108], [e46_0 l v24, hA 29 39 (.int .u32) (rv.set ((v108).toNat) (bShl .u32 (1 : Int) v108)), e46_2 all]⟩ : St)) (by kernel_rfl) (tsI 3 (⟨o1, ⟨o2, tsI 1 trivial⟩⟩)) ?_
               refine awl_nil ?_
               refine blockQ_n ?_
               refine thenQ_n ?_
               refine aw_region ?_
               obtain ⟨o1, h⟩ := h
               refine rq 2 (ob := (InR (v108 + (1 : Int)) ∧ Ts 1 True)) (st' := (⟨155, [e46_8 w, e46_1 w, s1 6 (.fn 86 [(⟨tI, ((w.length : Int) + (1 : Int))⟩ : Dat)]), e46_5, sp 9 9, e46_7, e46_4 l, e46_3 l, sI 24 v24, e46_16 w, sI 108 (v108 + (1 : Int))], [e46_0 l v24, hA 29 39 (.int .u32) (rv.set ((v108).toNat) (bShl .u32 (1 : Int) v108)), e46_2 all]⟩ : St)) (by kernel_rfl) (⟨o1, tsI 1 trivial⟩) ?_
               refine awl_nil ?_
               exact thenQ_n ⟨((v108 + (1 : Int)), (rv.set ((v108).toNat) (bShl .u32 (1 : Int) v108))), rfl, h⟩
              ·have h := h.2 hb
               refine cpr (st' := (⟨155, [e46_8 w, e46_1 w, s1 6 (.fn 86 [(⟨tI, ((w.length : Int) + (1 : Int))⟩ : Dat)]), e46_5, sp 9 9, e46_7, e46_4 l, e46_3 l, sI 24 v24], [e46_0 l v24, e46_11 rv, e46_2 all]⟩ : St)) (by kernel_rfl) ?_
               refine aw_exit ?_
               refine thenQ_x ?_
               refine thenQ_x ?_
               refine blockQ_hit ?_
               exact rest13 rv h
            ·have h := h.2 hb
             refine cpr (st' := (⟨155, [e46_8 w, e46_1 w, s1 6 (.fn 86 [(⟨tI, ((w.length : Int) + (1 : Int))⟩ : Dat)]), e46_5, e46_7, e46_4 l, e46_3 l, sI 24 v24], [e46_6 w, e46_2 all]⟩ : St)) (by kernel_rfl) ?_
             refine aw_skip ?_
             exact rest10 (List.replicate (((w.length : Int) + (1 : Int))).toNat (0 : Int)) h
  ·have h := h.2 hb
   refine cpr (st' := (⟨155, [e46_5], [e46_2 all]⟩ : St)) (by kernel_rfl) ?_
   refine aw_exit ?_
   refine thenQ_x ?_
   refine thenQ_x ?_
   refine blockQ_hit ?_
   exact rest1 all h
abbrev e23_0 (l : LN) : Nat × Path × AV := s1 1 (.p (.sl t3) l)
-- coppicer/sentence.Takes
def VC23 (k : Int) (l : LN) (w : LI) (K : Bool × Int → Prop) : Prop :=
  VC45 k l (fun (ret12v : Int) => (((!decide (ret12v = (0 : Int))) = true → K (false, ret12v)) ∧ ((!decide (ret12v = (0 : Int))) = false → VC40 k w (fun (ret18v : Int) => (((!decide (ret18v = (0 : Int))) = true → K (false, ret18v)) ∧ ((!decide (ret18v = (0 : Int))) = false → VC46 l w (fun (ret24v : LI) => (inIdx (0 : Int) ret24v.length ∧ VC44 (ret24v.getD ((0 : Int)).toNat (0 : Int)) (w.length : Int) (fun (ret29v : Bool) => K (ret29v, (0 : Int)))))))))))
set_option maxHeartbeats 4000000 in
theorem link23 (k : Int) (l : LN) (w : LI) (K : Bool × Int → Prop) (h : VC23 k l w K) : ACalls Try.prog 23 [toV1 tI k, toV1 (.sl t3) l, toV1 (.sl tI) w] (fun res => ∃ y, res = (fun y => [toV1 .bool y.1, toV1 tI y.2]) y ∧ K y) := by
 refine acalls_of_aw [.bool, tI] [.t 6, .t 7] Try.func23 rfl rfl rfl ?_
 unfold VC23 at h
 refine srn 2 ⟨30, [sI 0 k, e23_0 l, s1 2 (.pS w)], []⟩ (by kernel_rfl) rfl ?_
 refine aw_seq ?_
 refine sr ?_
 refine rqT 2 ⟨30, [sI 0 k, e23_0 l, s1 2 (.pS w), sI 10 k, s1 11 (.p (.sl t3) l)], []⟩ (by kernel_rfl) ?_
 refine lcq (d := 12) [.d tI, .d (.sl t3)] (fun ret12v => (⟨30, [sI 0 k, e23_0 l, s1 2 (.pS w), sI 12 ret12v], []⟩ : St)) (by kernel_rfl) Try.call45 (fun _ => by kernel_rfl) (link45 k l _ h) (fun ret12v h => ?_)
 refine rqT 1 ⟨30, [sI 0 k, e23_0 l, s1 2 (.pS w), sI 8 ret12v], []⟩ (by kernel_rfl) ?_
 refine nsr ?_
 refine rqT 2 ⟨30, [sI 0 k, e23_0 l, s1 2 (.pS w), sI 8 ret12v, sB 14 (!decide (ret12v = (0 : Int)))], []⟩ (by kernel_rfl) ?_
 refine nn ?_
 refine aw_cond (b := (!decide (ret12v = (0 : Int)))) (by kernel_rfl) (fun hb => ?_) (fun hb => ?_)
 ·have h := h.1 hb
  refine srn 3 ⟨30, [sB 6 false, sI 7 ret12v], []⟩ (by kernel_rfl) rfl ?_
  refine aw_ret ?_
  refine thenQ_r ?_
  exact retQ_r (ob := Ts 2 True) _ (by kernel_rfl) (tsI 2 trivial) h
 ·have h := h.2 hb
  refine aw_skip ?_
  refine thenQ_n ?_
  refine aw_seq ?_
  refine sr ?_
  refine rqT 2 ⟨30, [e23_0 l, s1 2 (.pS w), sI 16 k, s1 17 (.pS w)], []⟩ (by kernel_rfl) ?_
  refine lcq (d := 18) [.d tI, .d (.sl tI)] (fun ret18v => (⟨30, [e23_0 l, s1 2 (.pS w), sI 18 ret18v], []⟩ : St)) (by kernel_rfl) Try.call40 (fun _ => by kernel_rfl) (link40 k w _ h) (fun ret18v h => ?_)
  refine rqT 1 ⟨30, [e23_0 l, s1 2 (.pS w), sI 9 ret18v], []⟩ (by kernel_rfl) ?_
  refine nsr ?_
  refine rqT 2 ⟨30, [e23_0 l, s1 2 (.pS w), sI 9 ret18v, sB 20 (!decide (ret18v = (0 : Int)))], []⟩ (by kernel_rfl) ?_
  refine nn ?_
  refine aw_cond (b := (!decide (ret18v = (0 : Int)))) (by kernel_rfl) (fun hb => ?_) (fun hb => ?_)
  ·have h := h.1 hb
   refine srn 3 ⟨30, [sB 6 false, sI 7 ret18v], []⟩ (by kernel_rfl) rfl ?_
   refine aw_ret ?_
   refine thenQ_r ?_
   exact retQ_r (ob := Ts 2 True) _ (by kernel_rfl) (tsI 2 trivial) h
  ·have h := h.2 hb
   refine aw_skip ?_
   refine thenQ_n ?_
   refine sr ?_
   refine rqT 2 ⟨30, [s1 2 (.pS w), s1 22 (.p (.sl t3) l), s1 23 (.pS w)], []⟩ (by kernel_rfl) ?_
   refine lcq (d := 24) [.d (.sl t3), .d (.sl tI)] (fun ret24v => (⟨30, [s1 2 (.pS w), s1 24 (.p (.sl (.int .u32)) ret24v)], []⟩ : St)) (by kernel_rfl) Try.call46 (fun _ => by kernel_rfl) (link46 l w _ h) (fun ret24v h => ?_)
   obtain ⟨o1, h⟩ := h
   refine rq 4 (ob := (inIdx (0 : Int) ret24v.length ∧ Ts 3 True)) (st' := (⟨30, [s1 26 (.pW (ret24v.getD ((0 : Int)).toNat (0 : Int))), sI 28 (w.length : Int)], []⟩ : St)) (by kernel_rfl) (⟨o1, tsI 3 trivial⟩) ?_
   refine lcq (d := 29) [.d (.int .u32), .d tI] (fun ret29v => (⟨30, [sB 29 ret29v], []⟩ : St)) (by kernel_rfl) Try.call44 (fun _ => by kernel_rfl) (link44 (ret24v.getD ((0 : Int)).toNat (0 : Int)) (w.length : Int) _ h) (fun ret29v h => ?_)
   refine rqT 2 ⟨30, [sB 6 ret29v, sI 7 (0 : Int)], []⟩ (by kernel_rfl) ?_
   refine nn ?_
   refine aw_ret ?_
   exact retQ_r (ob := Ts 2 True) _ (by kernel_rfl) (tsI 2 trivial) h
abbrev e87_0 (l : LN) (v9 : Int) : Nat × Path × Con := hB 6 [.pI ((l.getD (v9).toNat z3).1), .pI ((l.getD (v9).toNat z3).2.1), .pI ((l.getD (v9).toNat z3).2.2)]
abbrev e87_1 (l : LN) : Nat × Path × AV := sI 8 (l.length : Int)
abbrev e87_2 (l : LN) : Nat × Path × AV := s1 7 (.p (.sl t3) l)
-- coppicer/coppicerref.Right
def VC87_k1 (K : Int → Prop) : Prop :=
  K (0 : Int)
def VC87_l1 (k : Int) (l : LN) (K : Int → Prop) (v9 : Int) (X1 : Int → Prop) : Prop :=
  (((decide (v9 < (l.length : Int))) = true → (inIdx v9 l.length ∧ ((((decide ((l.getD (v9).toNat z3).1 < (1 : Int))) || (decide ((6 : Int) < (l.getD (v9).toNat z3).1))) = true → K (6 : Int)) ∧ (((decide ((l.getD (v9).toNat z3).1 < (1 : Int))) || (decide ((6 : Int) < (l.getD (v9).toNat z3).1))) = false → ((((decide ((l.getD (v9).toNat z3).1 = (3 : Int))) && ((decide ((l.getD (v9).toNat z3).2.1 < (0 : Int))) || (decide (k ≤ (l.getD (v9).toNat z3).2.1)))) = true → K (2 : Int)) ∧ (((decide ((l.getD (v9).toNat z3).1 = (3 : Int))) && ((decide ((l.getD (v9).toNat z3).2.1 < (0 : Int))) || (decide (k ≤ (l.getD (v9).toNat z3).2.1)))) = false → ((((decide ((4 : Int) ≤ (l.getD (v9).toNat z3).1)) && ((decide ((l.getD (v9).toNat z3).2.1 < (0 : Int))) || (decide (v9 ≤ (l.getD (v9).toNat z3).2.1)))) = true → K (2 : Int)) ∧ (((decide ((4 : Int) ≤ (l.getD (v9).toNat z3).1)) && ((decide ((l.getD (v9).toNat z3).2.1 < (0 : Int))) || (decide (v9 ≤ (l.getD (v9).toNat z3).2.1)))) = false → (((((decide ((l.getD (v9).toNat z3).1 = (4 : Int))) || (decide ((l.getD (v9).toNat z3).1 = (5 : Int)))) && ((decide ((l.getD (v9).toNat z3).2.2 < (0 : Int))) || (decide (v9 ≤ (l.getD (v9).toNat z3).2.2)))) = true → K (2 : Int)) ∧ ((((decide ((l.getD (v9).toNat z3).1 = (4 : Int))) || (decide ((l.getD (v9).toNat z3).1 = (5 : Int)))) && ((decide ((l.getD (v9).toNat z3).2.2 < (0 : Int))) || (decide (v9 ≤ (l.getD (v9).toNat z3).2.2)))) = false → (InR (v9 + (1 : Int)) ∧ X1 (v9 + (1 : Int))))))))))))) ∧ ((decide (v9 < (l.length : Int))) = false → VC87_k1 K))
def VC87 (k : Int) (l : LN) (K : Int → Prop) : Prop :=
  Loop (σ := Int) (fun s X => VC87_l1 k l K s X) (0 : Int)
set_option maxHeartbeats 4000000 in
theorem link87 (k : Int) (l : LN) (K : Int → Prop) (h : VC87 k l K) : ACalls Try.prog 87 [toV1 tI k, toV1 (.sl t3) l] (fun res => ∃ y, res = (fun y => [toV1 tI y]) y ∧ K y) := by
 refine acalls_of_aw [tI] [.t 4] Try.func87 rfl rfl rfl ?_
 unfold VC87 at h
 refine srn 1 ⟨70, [sI 0 k, s1 1 (.p (.sl t3) l)], []⟩ (by kernel_rfl) rfl ?_
 refine aw_seq ?_
 refine srn 3 ⟨70, [sI 0 k, e87_2 l, e87_1 l, sI 9 (0 : Int)], []⟩ (by kernel_rfl) rfl ?_
 refine withJoin (σ := Unit) (fun s => (⟨70, [], []⟩ : St)) (fun s => VC87_k1 K) (fun s h => ?_) (fun rest1 => ?_)
 ·have h : VC87_k1 K := h
  unfold VC87_k1 at h
  refine thenQ_n ?_
  refine srn 1 ⟨70, [sI 4 (0 : Int)], []⟩ (by kernel_rfl) rfl ?_
  refine aw_ret ?_
  exact retQ_r (ob := Ts 1 True) _ (by kernel_rfl) (tsI 1 trivial) h
 ·refine aw_block ?_
  refine aw_loop (σ := Int) (fun s => (⟨70, [sI 0 k, e87_2 l, e87_1 l, sI 9 s], []⟩ : St)) (fun s X => VC87_l1 k l K s X) (s0 := (0 : Int)) (fun v9 X1 h => ?_) h
  have h : VC87_l1 k l K v9 X1 := h
  unfold VC87_l1 at h
  refine srn 1 ⟨70, [sI 0 k, e87_2 l, e87_1 l, sI 9 v9, sB 10 (decide (v9 < (l.length : Int)))], []⟩ (by kernel_rfl) rfl ?_
  refine aw_seq ?_
  refine aw_cond (b := (decide (v9 < (l.length : Int)))) (by kernel_rfl) (fun hb => ?_) (fun hb => ?_)
  ·have h := h.1 hb
   refine aw_skip ?_
   refine thenQ_n ?_
   refine aw_seq ?_
   refine aw_block ?_
   refine sr ?_
   obtain ⟨o1, h⟩ := h
   refine rq 6 (ob := (Ts 1 (inIdx v9 l.length ∧ Ts 4 True))) (st' := (⟨70, [sI 0 k, sI 5 v9, sp 6 6, e87_2 l, e87_1 l, sI 9 v9], [e87_0 l v9]⟩ : St)) (by kernel_rfl) (tsI 1 ⟨o1, tsI 4 trivial⟩) ?_
   refine nn ?_
   refine aw_seq ?_
   refine sr ?_
   refine rq 8 (ob := (Ts 4 (Ti 3 ((decide ((l.getD (v9).toNat z3).1 < (1 : Int))) = false → True) (Ts 1 True)))) (st' := (⟨70, [sI 0 k, sI 5 v9, sp 6 6, e87_2 l, e87_1 l, sI 9 v9, sB 21 ((decide ((l.getD (v9).toNat z3).1 < (1 : Int))) || (decide ((6 : Int) < (l.getD (v9).toNat z3).1)))], [e87_0 l v9]⟩ : St)) (by kernel_rfl) (tsI 4 (tiI 3 (fun _ => trivial) (tsI 1 trivial))) ?_
   refine nn ?_
   refine aw_cond (b := ((decide ((l.getD (v9).toNat z3).1 < (1 : Int))) || (decide ((6 : Int) < (l.getD (v9).toNat z3).1)))) (by kernel_rfl) (fun hb => ?_) (fun hb => ?_)
   ·have h := h.1 hb
    refine srn 1 ⟨70, [sI 4 (6 : Int)], []⟩ (by kernel_rfl) rfl ?_
    refine aw_ret ?_
    refine thenQ_r ?_
    refine blockQ_r ?_
    refine thenQ_r ?_
    refine thenQ_r ?_
    refine blockQ_r ?_
    refine thenQ_r ?_
    exact retQ_r (ob := Ts 1 True) _ (by kernel_rfl) (tsI 1 trivial) h
   ·have h := h.2 hb
    refine aw_skip ?_
    refine thenQ_n ?_
    refine aw_seq ?_
    refine sr ?_
    refine rq 14 (ob := (Ts 4 (Ti 4 ((decide ((l.getD (v9).toNat z3).1 = (3 : Int))) = true → True) (((decide ((l.getD (v9).toNat z3).1 = (3 : Int))) = true → ((decide ((l.getD (v9).toNat z3).2.1 < (0 : Int))) = false → True)) ∧ ((decide ((l.getD (v9).toNat z3).1 = (3 : Int))) = true → ((decide ((l.getD (v9).toNat z3).2.1 < (0 : Int))) = false → True)) ∧ ((decide ((l.getD (v9).toNat z3).1 = (3 : Int))) = true → ((decide ((l.getD (v9).toNat z3).2.1 < (0 : Int))) = false → True)) ∧ ((decide ((l.getD (v9).toNat z3).1 = (3 : Int))) = true → ((decide ((l.getD (v9).toNat z3).2.1 < (0 : Int))) = false → True)) ∧ ((decide ((l.getD (v9).toNat z3).1 = (3 : Int))) = true → True) ∧ Ts 1 True)))) (st' := (⟨70, [sI 0 k, sI 5 v9, sp 6 6, e87_2 l, e87_1 l, sI 9 v9, sB 35 ((decide ((l.getD (v9).toNat z3).1 = (3 : Int))) && ((decide ((l.getD (v9).toNat z3).2.1 < (0 : Int))) || (decide (k ≤ (l.getD (v9).toNat z3).2.1))))], [e87_0 l v9]⟩ : St)) (by kernel_rfl) (tsI 4 (tiI 4 (fun _ => trivial) (tiI 4 (fun _ _ => trivial) ⟨(fun _ => trivial), tsI 1 trivial⟩))) ?_
    refine nn ?_
    refine aw_cond (b := ((decide ((l.getD (v9).toNat z3).1 = (3 : Int))) && ((decide ((l.getD (v9).toNat z3).2.1 < (0 : Int))) || (decide (k ≤ (l.getD (v9).toNat z3).2.1))))) (by kernel_rfl) (fun hb => ?_) (fun hb => ?_)
    ·have h := h.1 hb
     refine srn 1 ⟨70, [sI 4 (2 : Int)], []⟩ (by kernel_rfl) rfl ?_
     refine aw_ret ?_
     refine thenQ_r ?_
     refine blockQ_r ?_
     refine thenQ_r ?_
     refine thenQ_r ?_
     refine blockQ_r ?_
     refine thenQ_r ?_
     exact retQ_r (ob := Ts 1 True) _ (by kernel_rfl) (tsI 1 trivial) h
    ·have h := h.2 hb
     refine aw_skip ?_
     refine thenQ_n ?_
     refine aw_seq ?_
     refine sr ?_
     refine rq 14 (ob := (Ts 4 (Ti 4 ((decide ((4 : Int) ≤ (l.getD (v9).toNat z3).1)) = true → True) (((decide ((4 : Int) ≤ (l.getD (v9).toNat z3).1)) = true → ((decide ((l.getD (v9).toNat z3).2.1 < (0 : Int))) = false → True)) ∧ ((decide ((4 : Int) ≤ (l.getD (v9).toNat z3).1)) = true → ((decide ((l.getD (v9).toNat z3).2.1 < (0 : Int))) = false → True)) ∧ ((decide ((4 : Int) ≤ (l.getD (v9).toNat z3).1)) = true → ((decide ((l.getD (v9).toNat z3).2.1 < (0 : Int))) = false → True)) ∧ ((decide ((4 : Int) ≤ (l.getD (v9).toNat z3).1)) = true → ((decide ((l.getD (v9).toNat z3).2.1 < (0 : Int))) = false → True)) ∧ ((decide ((4 : Int) ≤ (l.getD (v9).toNat z3).1)) = true → True) ∧ Ts 1 True)))) (st' := (⟨70, [sI 0 k, sI 5 v9, sp 6 6, e87_2 l, e87_1 l, sI 9 v9, sB 49 ((decide ((4 : Int) ≤ (l.getD (v9).toNat z3).1)) && ((decide ((l.getD (v9).toNat z3).2.1 < (0 : Int))) || (decide (v9 ≤ (l.getD (v9).toNat z3).2.1))))], [e87_0 l v9]⟩ : St)) (by kernel_rfl) (tsI 4 (tiI 4 (fun _ => trivial) (tiI 4 (fun _ _ => trivial) ⟨(fun _ => trivial), tsI 1 trivial⟩))) ?_
     refine nn ?_
     refine aw_cond (b := ((decide ((4 : Int) ≤ (l.getD (v9).toNat z3).1)) && ((decide ((l.getD (v9).toNat z3).2.1 < (0 : Int))) || (decide (v9 ≤ (l.getD (v9).toNat z3).2.1))))) (by kernel_rfl) (fun hb => ?_) (fun hb => ?_)
     ·have h := h.1 hb
      refine srn 1 ⟨70, [sI 4 (2 : Int)], []⟩ (by kernel_rfl) rfl ?_
      refine aw_ret ?_
      refine thenQ_r ?_
      refine blockQ_r ?_
      refine thenQ_r ?_
      refine thenQ_r ?_
      refine blockQ_r ?_
      refine thenQ_r ?_
      exact retQ_r (ob := Ts 1 True) _ (by kernel_rfl) (tsI 1 trivial) h
     ·have h := h.2 hb
      refine aw_skip ?_
      refine thenQ_n ?_
      refine sr ?_
      refine rq 19 (ob := (Ts 4 (Ti 3 ((decide ((l.getD (v9).toNat z3).1 = (4 : Int))) = false → True) (Ts 2 (Ti 4 (((decide ((l.getD (v9).toNat z3).1 = (4 : Int))) || (decide ((l.getD (v9).toNat z3).1 = (5 : Int)))) = true → True) ((((decide ((l.getD (v9).toNat z3).1 = (4 : Int))) || (decide ((l.getD (v9).toNat z3).1 = (5 : Int)))) = true → ((decide ((l.getD (v9).toNat z3).2.2 < (0 : Int))) = false → True)) ∧ (((decide ((l.getD (v9).toNat z3).1 = (4 : Int))) || (decide ((l.getD (v9).toNat z3).1 = (5 : Int)))) = true → ((decide ((l.getD (v9).toNat z3).2.2 < (0 : Int))) = false → True)) ∧ (((decide ((l.getD (v9).toNat z3).1 = (4 : Int))) || (decide ((l.getD (v9).toNat z3).1 = (5 : Int)))) = true → ((decide ((l.getD (v9).toNat z3).2.2 < (0 : Int))) = false → True)) ∧ (((decide ((l.getD (v9).toNat z3).1 = (4 : Int))) || (decide ((l.getD (v9).toNat z3).1 = (5 : Int)))) = true → ((decide ((l.getD (v9).toNat z3).2.2 < (0 : Int))) = false → True)) ∧ (((decide ((l.getD (v9).toNat z3).1 = (4 : Int))) || (decide ((l.getD (v9).toNat z3).1 = (5 : Int)))) = true → True) ∧ Ts 1 True)))))) (st' := (⟨70, [sI 0 k, e87_2 l, e87_1 l, sI 9 v9, sB 68 (((decide ((l.getD (v9).toNat z3).1 = (4 : Int))) || (decide ((l.getD (v9).toNat z3).1 = (5 : Int)))) && ((decide ((l.getD (v9).toNat z3).2.2 < (0 : Int))) || (decide (v9 ≤ (l.getD (v9).toNat z3).2.2))))], []⟩ : St)) (by kernel_rfl) (tsI 4 (tiI 3 (fun _ => trivial) (tsI 2 (tiI 4 (fun _ => trivial) (tiI 4 (fun _ _ => trivial) ⟨(fun _ => trivial), tsI 1 trivial⟩))))) ?_
      refine nn ?_
      refine aw_cond (b := (((decide ((l.getD (v9).toNat z3).1 = (4 : Int))) || (decide ((l.getD (v9).toNat z3).1 = (5 : Int)))) && ((decide ((l.getD (v9).toNat z3).2.2 < (0 : Int))) || (decide (v9 ≤ (l.getD (v9).toNat z3).2.2))))) (by kernel_rfl) (fun hb => ?_) (fun hb => ?_)
      ·have h := h.1 hb
       refine srn 1 ⟨70, [sI 4 (2 : Int)], []⟩ (by kernel_rfl) rfl ?_
       refine aw_ret ?_
       refine blockQ_r ?_
       refine thenQ_r ?_
       refine thenQ_r ?_
       refine blockQ_r ?_
       refine thenQ_r ?_
       exact retQ_r (ob := Ts 1 True) _ (by kernel_rfl) (tsI 1 trivial) h
      ·have h := h.2 hb
       refine aw_skip ?_
       refine blockQ_n ?_
       refine thenQ_n ?_
       refine aw_region ?_
       obtain ⟨o1, h⟩ := h
       refine rq 2 (ob := (InR (v9 + (1 : Int)) ∧ Ts 1 True)) (st' := (⟨70, [sI 0 k, e87_2 l, e87_1 l, sI 9 (v9 + (1 : Int))], []⟩ : St)) (by kernel_rfl) (⟨o1, tsI 1 trivial⟩) ?_
       refine awl_nil ?_
       exact thenQ_n ⟨(v9 + (1 : Int)), rfl, h⟩
  ·have h := h.2 hb
   refine cpr (st' := (⟨70, [], []⟩ : St)) (by kernel_rfl) ?_
   refine aw_exit ?_
   refine thenQ_x ?_
   refine thenQ_x ?_
   refine blockQ_hit ?_
   exact rest1 () h
-- coppicer/coppicerref.SentenceCheck
def VC47 (k : Int) (l : LN) (K : Int → Prop) : Prop :=
  ((((((decide (k < (1 : Int))) || (decide ((3 : Int) < k))) || (decide ((l.length : Int) = (0 : Int)))) || (decide ((9 : Int) < (l.length : Int)))) = true → K (1 : Int)) ∧ (((((decide (k < (1 : Int))) || (decide ((3 : Int) < k))) || (decide ((l.length : Int) = (0 : Int)))) || (decide ((9 : Int) < (l.length : Int)))) = false → VC87 k l (fun (ret23v : Int) => K ret23v)))
set_option maxHeartbeats 4000000 in
theorem link47 (k : Int) (l : LN) (K : Int → Prop) (h : VC47 k l K) : ACalls Try.prog 47 [toV1 tI k, toV1 (.sl t3) l] (fun res => ∃ y, res = (fun y => [toV1 tI y]) y ∧ K y) := by
 refine acalls_of_aw [tI] [.t 4] Try.func47 rfl rfl rfl ?_
 unfold VC47 at h
 refine srn 1 ⟨24, [sI 0 k, s1 1 (.p (.sl t3) l)], []⟩ (by kernel_rfl) rfl ?_
 refine aw_seq ?_
 refine sr ?_
 refine rq 16 (ob := (Ts 3 (Ti 2 ((decide (k < (1 : Int))) = false → True) (Ts 2 (Ti 3 (((decide (k < (1 : Int))) || (decide ((3 : Int) < k))) = false → True) (Ts 2 (Ti 3 ((((decide (k < (1 : Int))) || (decide ((3 : Int) < k))) || (decide ((l.length : Int) = (0 : Int)))) = false → True) (Ts 1 True)))))))) (st' := (⟨24, [sI 0 k, s1 1 (.p (.sl t3) l), sB 20 ((((decide (k < (1 : Int))) || (decide ((3 : Int) < k))) || (decide ((l.length : Int) = (0 : Int)))) || (decide ((9 : Int) < (l.length : Int))))], []⟩ : St)) (by kernel_rfl) (tsI 3 (tiI 2 (fun _ => trivial) (tsI 2 (tiI 3 (fun _ => trivial) (tsI 2 (tiI 3 (fun _ => trivial) (tsI 1 trivial))))))) ?_
 refine nn ?_
 refine aw_cond (b := ((((decide (k < (1 : Int))) || (decide ((3 : Int) < k))) || (decide ((l.length : Int) = (0 : Int)))) || (decide ((9 : Int) < (l.length : Int))))) (by kernel_rfl) (fun hb => ?_) (fun hb => ?_)
 ·have h := h.1 hb
  refine srn 1 ⟨24, [sI 4 (1 : Int)], []⟩ (by kernel_rfl) rfl ?_
  refine aw_ret ?_
  refine thenQ_r ?_
  exact retQ_r (ob := Ts 1 True) _ (by kernel_rfl) (tsI 1 trivial) h
 ·have h := h.2 hb
  refine aw_skip ?_
  refine thenQ_n ?_
  refine sr ?_
  refine rqT 2 ⟨24, [sI 21 k, s1 22 (.p (.sl t3) l)], []⟩ (by kernel_rfl) ?_
  refine lcq (d := 23) [.d tI, .d (.sl t3)] (fun ret23v => (⟨24, [sI 23 ret23v], []⟩ : St)) (by kernel_rfl) Try.call87 (fun _ => by kernel_rfl) (link87 k l _ h) (fun ret23v h => ?_)
  refine rqT 1 ⟨24, [sI 4 ret23v], []⟩ (by kernel_rfl) ?_
  refine nn ?_
  refine aw_ret ?_
  exact retQ_r (ob := Ts 1 True) _ (by kernel_rfl) (tsI 1 trivial) h
abbrev e16_0 (w : LI) : Nat × Path × AV := sI 11 (w.length : Int)
-- coppicer/coppicerref.WordCheck
def VC16_k1 (K : Int → Prop) : Prop :=
  K (0 : Int)
def VC16_l1 (k : Int) (w : LI) (K : Int → Prop) (v12 : Int) (X1 : Int → Prop) : Prop :=
  (((decide (v12 < (w.length : Int))) = true → (inIdx v12 w.length ∧ ((((decide ((w.getD (v12).toNat (0 : Int)) < (0 : Int))) || (decide (k ≤ (w.getD (v12).toNat (0 : Int))))) = true → K (2 : Int)) ∧ (((decide ((w.getD (v12).toNat (0 : Int)) < (0 : Int))) || (decide (k ≤ (w.getD (v12).toNat (0 : Int))))) = false → (InR (v12 + (1 : Int)) ∧ X1 (v12 + (1 : Int))))))) ∧ ((decide (v12 < (w.length : Int))) = false → VC16_k1 K))
def VC16 (k : Int) (w : LI) (K : Int → Prop) : Prop :=
  (((decide ((12 : Int) < (w.length : Int))) = true → K (1 : Int)) ∧ ((decide ((12 : Int) < (w.length : Int))) = false → Loop (σ := Int) (fun s X => VC16_l1 k w K s X) (0 : Int)))
set_option maxHeartbeats 4000000 in
theorem link16 (k : Int) (w : LI) (K : Int → Prop) (h : VC16 k w K) : ACalls Try.prog 16 [toV1 tI k, toV1 (.sl tI) w] (fun res => ∃ y, res = (fun y => [toV1 tI y]) y ∧ K y) := by
 refine acalls_of_aw [tI] [.t 4] Try.func16 rfl rfl rfl ?_
 unfold VC16 at h
 refine srn 1 ⟨24, [sI 0 k, s1 1 (.pS w)], []⟩ (by kernel_rfl) rfl ?_
 refine aw_seq ?_
 refine srn 3 ⟨24, [sI 0 k, s1 1 (.pS w), sB 9 (decide ((12 : Int) < (w.length : Int)))], []⟩ (by kernel_rfl) rfl ?_
 refine aw_cond (b := (decide ((12 : Int) < (w.length : Int)))) (by kernel_rfl) (fun hb => ?_) (fun hb => ?_)
 ·have h := h.1 hb
  refine srn 1 ⟨24, [sI 4 (1 : Int)], []⟩ (by kernel_rfl) rfl ?_
  refine aw_ret ?_
  refine thenQ_r ?_
  exact retQ_r (ob := Ts 1 True) _ (by kernel_rfl) (tsI 1 trivial) h
 ·have h := h.2 hb
  refine aw_skip ?_
  refine thenQ_n ?_
  refine aw_seq ?_
  refine srn 3 ⟨24, [sI 0 k, s1 10 (.pS w), e16_0 w, sI 12 (0 : Int)], []⟩ (by kernel_rfl) rfl ?_
  refine withJoin (σ := Unit) (fun s => (⟨24, [], []⟩ : St)) (fun s => VC16_k1 K) (fun s h => ?_) (fun rest1 => ?_)
  ·have h : VC16_k1 K := h
   unfold VC16_k1 at h
   refine thenQ_n ?_
   refine srn 1 ⟨24, [sI 4 (0 : Int)], []⟩ (by kernel_rfl) rfl ?_
   refine aw_ret ?_
   exact retQ_r (ob := Ts 1 True) _ (by kernel_rfl) (tsI 1 trivial) h
  ·refine aw_block ?_
   refine aw_loop (σ := Int) (fun s => (⟨24, [sI 0 k, s1 10 (.pS w), e16_0 w, sI 12 s], []⟩ : St)) (fun s X => VC16_l1 k w K s X) (s0 := (0 : Int)) (fun v12 X1 h => ?_) h
   have h : VC16_l1 k w K v12 X1 := h
   unfold VC16_l1 at h
   refine srn 1 ⟨24, [sI 0 k, s1 10 (.pS w), e16_0 w, sI 12 v12, sB 13 (decide (v12 < (w.length : Int)))], []⟩ (by kernel_rfl) rfl ?_
   refine aw_seq ?_
   refine aw_cond (b := (decide (v12 < (w.length : Int)))) (by kernel_rfl) (fun hb => ?_) (fun hb => ?_)
   ·have h := h.1 hb
    refine aw_skip ?_
    refine thenQ_n ?_
    refine aw_seq ?_
    refine aw_block ?_
    refine sr ?_
    obtain ⟨o1, h⟩ := h
    refine rq 3 (ob := (inIdx v12 w.length ∧ Ts 2 True)) (st' := (⟨24, [sI 0 k, sI 6 (w.getD (v12).toNat (0 : Int)), s1 10 (.pS w), e16_0 w, sI 12 v12], []⟩ : St)) (by kernel_rfl) (⟨o1, tsI 2 trivial⟩) ?_
    refine nsr ?_
    refine rq 7 (ob := (Ts 3 (Ti 3 ((decide ((w.getD (v12).toNat (0 : Int)) < (0 : Int))) = false → True) (Ts 1 True)))) (st' := (⟨24, [sI 0 k, s1 10 (.pS w), e16_0 w, sI 12 v12, sB 22 ((decide ((w.getD (v12).toNat (0 : Int)) < (0 : Int))) || (decide (k ≤ (w.getD (v12).toNat (0 : Int)))))], []⟩ : St)) (by kernel_rfl) (tsI 3 (tiI 3 (fun _ => trivial) (tsI 1 trivial))) ?_
    refine nn ?_
    refine aw_cond (b := ((decide ((w.getD (v12).toNat (0 : Int)) < (0 : Int))) || (decide (k ≤ (w.getD (v12).toNat (0 : Int)))))) (by kernel_rfl) (fun hb => ?_) (fun hb => ?_)
    ·have h := h.1 hb
     refine srn 1 ⟨24, [sI 4 (2 : Int)], []⟩ (by kernel_rfl) rfl ?_
     refine aw_ret ?_
     refine blockQ_r ?_
     refine thenQ_r ?_
     refine thenQ_r ?_
     refine blockQ_r ?_
     refine thenQ_r ?_
     exact retQ_r (ob := Ts 1 True) _ (by kernel_rfl) (tsI 1 trivial) h
    ·have h := h.2 hb
     refine aw_skip ?_
     refine blockQ_n ?_
     refine thenQ_n ?_
     refine aw_region ?_
     obtain ⟨o1, h⟩ := h
     refine rq 2 (ob := (InR (v12 + (1 : Int)) ∧ Ts 1 True)) (st' := (⟨24, [sI 0 k, s1 10 (.pS w), e16_0 w, sI 12 (v12 + (1 : Int))], []⟩ : St)) (by kernel_rfl) (⟨o1, tsI 1 trivial⟩) ?_
     refine awl_nil ?_
     exact thenQ_n ⟨(v12 + (1 : Int)), rfl, h⟩
   ·have h := h.2 hb
    refine cpr (st' := (⟨24, [], []⟩ : St)) (by kernel_rfl) ?_
    refine aw_exit ?_
    refine thenQ_x ?_
    refine thenQ_x ?_
    refine blockQ_hit ?_
    exact rest1 () h
-- coppicer/coppicerkeep.said
def VC24 (k : Int) (l : LN) (w : LI) (K : Bool → Prop) : Prop :=
  VC47 k l (fun (ret9v : Int) => gcall (α := Int) (decide (ret9v = (0 : Int))) (VC16 k w) (0 : Int) (fun (ret14v : Int) => K ((decide (ret9v = (0 : Int))) && (decide (ret14v = (0 : Int))))))
set_option maxHeartbeats 4000000 in
theorem link24 (k : Int) (l : LN) (w : LI) (K : Bool → Prop) (h : VC24 k l w K) : ACalls Try.prog 24 [toV1 tI k, toV1 (.sl t3) l, toV1 (.sl tI) w] (fun res => ∃ y, res = (fun y => [toV1 .bool y]) y ∧ K y) := by
 refine acalls_of_aw [.bool] [.t 6] Try.func24 rfl rfl rfl ?_
 unfold VC24 at h
 refine sr ?_
 refine rqT 1 ⟨17, [sI 0 k, s1 1 (.p (.sl t3) l), s1 2 (.pS w)], []⟩ (by kernel_rfl) ?_
 refine nsr ?_
 refine rqT 2 ⟨17, [sI 0 k, s1 2 (.pS w), sI 7 k, s1 8 (.p (.sl t3) l)], []⟩ (by kernel_rfl) ?_
 refine lcq (d := 9) [.d tI, .d (.sl t3)] (fun ret9v => (⟨17, [sI 0 k, s1 2 (.pS w), sI 9 ret9v], []⟩ : St)) (by kernel_rfl) Try.call47 (fun _ => by kernel_rfl) (link47 k l _ h) (fun ret9v h => ?_)
 refine rq 4 (ob := (Ts 2 (Ti 2 ((decide (ret9v = (0 : Int))) = true → True) True))) (st' := (⟨17, [sB 11 (decide (ret9v = (0 : Int))), (12, [(11, true)], .v (.c (.pI k))), (13, [(11, true)], .v (.c (.pS w)))], []⟩ : St)) (by kernel_rfl) (tsI 2 (tiI 2 (fun _ => trivial) trivial)) ?_
 refine awl_callk (p := [(11, true)]) (l := [toV1 tI k, toV1 (.sl tI) w]) (cl := []) false [.d tI, .d (.sl tI)] [11, 14] [] (fun (ret14v : Int) => K ((decide (ret9v = (0 : Int))) && (decide (ret14v = (0 : Int))))) (fun ret14v => [toV1 tI ret14v]) (fun ret14v => (⟨17, [sB 11 (decide (ret9v = (0 : Int))), (14, [(11, true)], .v (.c (.pI ret14v)))], []⟩ : St)) (by kernel_rfl) rfl (by kernel_rfl) rfl (by kernel_rfl) Try.call16 (by kernel_rfl) (fun ret14v => by kernel_rfl) (fun e => by cases e) (fun hg => link16 k w _ (by have := gcall_T h (show (decide (ret9v = (0 : Int))) = true from hg); exact this)) (fun hg => ⟨(0 : Int), by have := gcall_F h (show (decide (ret9v = (0 : Int))) = false from hg); exact this⟩) (fun ret14v h => ?_)
 refine rq 3 (ob := (((decide (ret9v = (0 : Int))) = true → True) ∧ Ts 2 True)) (st' := (⟨17, [sB 6 ((decide (ret9v = (0 : Int))) && (decide (ret14v = (0 : Int))))], []⟩ : St)) (by kernel_rfl) (⟨(fun _ => trivial), tsI 2 trivial⟩) ?_
 refine nn ?_
 refine aw_ret ?_
 exact retQ_r (ob := Ts 1 True) _ (by kernel_rfl) (tsI 1 trivial) h
abbrev e6_0 (l : LN) : Nat × Path × Con := hA 43 50 t3 ((([] : List (Int × (Int × Int))) ++ ((([] : List (Int × (Int × Int))) ++ l) ++ [((6 : Int), (((l.length : Int) - (1 : Int)), (0 : Int)))])) ++ [((4 : Int), (((l.length : Int) - (1 : Int)), (l.length : Int))), ((2 : Int), ((0 : Int), (0 : Int))), ((5 : Int), (((l.length : Int) + (1 : Int)), ((l.length : Int) + (2 : Int))))])
abbrev e6_1 (l : LN) : Nat × Path × Con := hA 50 50 t3 ((([] : List (Int × (Int × Int))) ++ ((([] : List (Int × (Int × Int))) ++ l) ++ [((6 : Int), (((l.length : Int) - (1 : Int)), (0 : Int)))])) ++ [((6 : Int), ((l.length : Int), (0 : Int)))])
abbrev e6_2 (l : LN) : Nat × Path × Con := hA 28 50 t3 ((([] : List (Int × (Int × Int))) ++ l) ++ [((6 : Int), (((l.length : Int) - (1 : Int)), (0 : Int)))])
abbrev e6_3 (l : LN) : Nat × Path × AV := s1 1 (.p (.sl t3) l)
abbrev e6_4 (l : LN) : Nat × Path × AV := sI 7 (l.length : Int)
abbrev e6_5 (w : LI) : Nat × Path × AV := s1 2 (.pS w)
abbrev e6_6 : Nat × Path × AV := s1 10 (.own 50)
abbrev e6_7 : Nat × Path × AV := s1 9 (.own 43)
-- coppicer/coppicerkeep.SentenceStar
def VC6 (k : Int) (l : LN) (w : LI) (K : Bool → Prop) : Prop :=
  (roomW 24 (([] : List (Int × (Int × Int))).length + l.length) ∧ InR ((l.length : Int) - (1 : Int)) ∧ roomW 24 ((([] : List (Int × (Int × Int))) ++ l).length + [((6 : Int), (((l.length : Int) - (1 : Int)), (0 : Int)))].length) ∧ (roomW 24 (([] : List (Int × (Int × Int))).length + ((([] : List (Int × (Int × Int))) ++ l) ++ [((6 : Int), (((l.length : Int) - (1 : Int)), (0 : Int)))]).length) ∧ InR ((l.length : Int) - (1 : Int)) ∧ InR ((l.length : Int) + (1 : Int)) ∧ InR ((l.length : Int) + (2 : Int)) ∧ roomW 24 ((([] : List (Int × (Int × Int))) ++ ((([] : List (Int × (Int × Int))) ++ l) ++ [((6 : Int), (((l.length : Int) - (1 : Int)), (0 : Int)))])).length + [((4 : Int), (((l.length : Int) - (1 : Int)), (l.length : Int))), ((2 : Int), ((0 : Int), (0 : Int))), ((5 : Int), (((l.length : Int) + (1 : Int)), ((l.length : Int) + (2 : Int))))].length) ∧ (roomW 24 (([] : List (Int × (Int × Int))).length + ((([] : List (Int × (Int × Int))) ++ l) ++ [((6 : Int), (((l.length : Int) - (1 : Int)), (0 : Int)))]).length) ∧ roomW 24 ((([] : List (Int × (Int × Int))) ++ ((([] : List (Int × (Int × Int))) ++ l) ++ [((6 : Int), (((l.length : Int) - (1 : Int)), (0 : Int)))])).length + [((6 : Int), ((l.length : Int), (0 : Int)))].length) ∧ VC23 k ((([] : List (Int × (Int × Int))) ++ l) ++ [((6 : Int), (((l.length : Int) - (1 : Int)), (0 : Int)))]) w (fun (ret55v : Bool × Int) => VC23 k ((([] : List (Int × (Int × Int))) ++ ((([] : List (Int × (Int × Int))) ++ l) ++ [((6 : Int), (((l.length : Int) - (1 : Int)), (0 : Int)))])) ++ [((4 : Int), (((l.length : Int) - (1 : Int)), (l.length : Int))), ((2 : Int), ((0 : Int), (0 : Int))), ((5 : Int), (((l.length : Int) + (1 : Int)), ((l.length : Int) + (2 : Int))))]) w (fun (ret62v : Bool × Int) => VC23 k ((([] : List (Int × (Int × Int))) ++ ((([] : List (Int × (Int × Int))) ++ l) ++ [((6 : Int), (((l.length : Int) - (1 : Int)), (0 : Int)))])) ++ [((6 : Int), ((l.length : Int), (0 : Int)))]) w (fun (ret69v : Bool × Int) => VC24 k l w (fun (ret75v : Bool) => (((!ret75v) = true → K (((!decide (ret55v.2 = (0 : Int))) && (!decide (ret62v.2 = (0 : Int)))) && (!decide (ret69v.2 = (0 : Int))))) ∧ ((!ret75v) = false → (InR ((l.length : Int) + (4 : Int)) ∧ (((decide ((9 : Int) < ((l.length : Int) + (4 : Int)))) = true → K (!decide (ret62v.2 = (0 : Int)))) ∧ ((decide ((9 : Int) < ((l.length : Int) + (4 : Int)))) = false → VC23 k l w (fun (ret96v : Bool × Int) => K ((((((((decide (ret55v.2 = (0 : Int))) && (decide (ret62v.2 = (0 : Int)))) && (decide (ret69v.2 = (0 : Int)))) && (decide (ret96v.2 = (0 : Int)))) && (ret55v.1 == ret62v.1)) && (ret55v.1 == ret69v.1)) && ((!ret96v.1) || ret55v.1)) && ((decide ((0 : Int) < (w.length : Int))) || ret55v.1)))))))))))))))
set_option maxHeartbeats 4000000 in
theorem link6 (k : Int) (l : LN) (w : LI) (K : Bool → Prop) (h : VC6 k l w K) : ACalls Try.prog 6 [toV1 tI k, toV1 (.sl t3) l, toV1 (.sl tI) w] (fun res => ∃ y, res = (fun y => [toV1 .bool y]) y ∧ K y) := by
 refine acalls_of_aw [.bool] [.t 6] Try.func6 rfl rfl rfl ?_
 unfold VC6 at h
 refine sr ?_
 refine rqT 1 ⟨138, [sI 0 k, e6_3 l, e6_5 w], []⟩ (by kernel_rfl) ?_
 refine nsr ?_
 refine rqT 3 ⟨138, [sI 0 k, e6_3 l, e6_5 w, e6_4 l], []⟩ (by kernel_rfl) ?_
 refine nsr ?_
 obtain ⟨o1, o2, o3, h⟩ := h
 refine rq 9 (ob := (Ts 2 (roomW 24 (([] : List (Int × (Int × Int))).length + l.length) ∧ Ts 1 (InR ((l.length : Int) - (1 : Int)) ∧ Ts 2 (roomW 24 ((([] : List (Int × (Int × Int))) ++ l).length + [((6 : Int), (((l.length : Int) - (1 : Int)), (0 : Int)))].length) ∧ Ts 1 True))))) (st' := (⟨138, [sI 0 k, e6_3 l, e6_5 w, e6_4 l, s1 8 (.own 28)], [e6_2 l]⟩ : St)) (by kernel_rfl) (tsI 2 (⟨o1, tsI 1 (⟨o2, tsI 2 ⟨o3, tsI 1 trivial⟩⟩)⟩)) ?_
 refine nsr ?_
 obtain ⟨o1, o2, o3, o4, o5, h⟩ := h
 refine rq 16 (ob := (Ts 2 (roomW 24 (([] : List (Int × (Int × Int))).length + ((([] : List (Int × (Int × Int))) ++ l) ++ [((6 : Int), (((l.length : Int) - (1 : Int)), (0 : Int)))]).length) ∧ Ts 1 (InR ((l.length : Int) - (1 : Int)) ∧ Ts 4 (InR ((l.length : Int) + (1 : Int)) ∧ Ts 1 (InR ((l.length : Int) + (2 : Int)) ∧ Ts 2 (roomW 24 ((([] : List (Int × (Int × Int))) ++ ((([] : List (Int × (Int × Int))) ++ l) ++ [((6 : Int), (((l.length : Int) - (1 : Int)), (0 : Int)))])).length + [((4 : Int), (((l.length : Int) - (1 : Int)), (l.length : Int))), ((2 : Int), ((0 : Int), (0 : Int))), ((5 : Int), (((l.length : Int) + (1 : Int)), ((l.length : Int) + (2 : Int))))].length) ∧ Ts 1 True))))))) (st' := (⟨138, [sI 0 k, e6_3 l, e6_5 w, e6_4 l, s1 8 (.own 28), e6_7], [e6_2 l, e6_0 l]⟩ : St)) (by kernel_rfl) (tsI 2 (⟨o1, tsI 1 (⟨o2, tsI 4 (⟨o3, tsI 1 (⟨o4, tsI 2 ⟨o5, tsI 1 trivial⟩⟩)⟩)⟩)⟩)) ?_
 refine nsr ?_
 obtain ⟨o1, o2, h⟩ := h
 refine rq 8 (ob := (Ts 2 (roomW 24 (([] : List (Int × (Int × Int))).length + ((([] : List (Int × (Int × Int))) ++ l) ++ [((6 : Int), (((l.length : Int) - (1 : Int)), (0 : Int)))]).length) ∧ Ts 3 (roomW 24 ((([] : List (Int × (Int × Int))) ++ ((([] : List (Int × (Int × Int))) ++ l) ++ [((6 : Int), (((l.length : Int) - (1 : Int)), (0 : Int)))])).length + [((6 : Int), ((l.length : Int), (0 : Int)))].length) ∧ Ts 1 True)))) (st' := (⟨138, [sI 0 k, e6_3 l, e6_5 w, e6_4 l, s1 8 (.own 28), e6_7, e6_6], [e6_2 l, e6_0 l, e6_1 l]⟩ : St)) (by kernel_rfl) (tsI 2 (⟨o1, tsI 3 ⟨o2, tsI 1 trivial⟩⟩)) ?_
 refine nsr ?_
 refine rqT 3 ⟨138, [sI 0 k, e6_3 l, e6_5 w, e6_4 l, e6_7, e6_6, sI 52 k, s1 53 (.own 28), s1 54 (.pS w)], [e6_2 l, e6_0 l, e6_1 l]⟩ (by kernel_rfl) ?_
 refine awl_callk (p := []) (l := [toV1 tI k, toV1 (.sl t3) ((([] : List (Int × (Int × Int))) ++ l) ++ [((6 : Int), (((l.length : Int) - (1 : Int)), (0 : Int)))]), toV1 (.sl tI) w]) (cl := []) true [.d tI, .d (.sl t3), .d (.sl tI)] [0, 1, 2, 7, 9, 10, 55] [43, 50] (fun (ret55v : Bool × Int) => VC23 k ((([] : List (Int × (Int × Int))) ++ ((([] : List (Int × (Int × Int))) ++ l) ++ [((6 : Int), (((l.length : Int) - (1 : Int)), (0 : Int)))])) ++ [((4 : Int), (((l.length : Int) - (1 : Int)), (l.length : Int))), ((2 : Int), ((0 : Int), (0 : Int))), ((5 : Int), (((l.length : Int) + (1 : Int)), ((l.length : Int) + (2 : Int))))]) w (fun (ret62v : Bool × Int) => VC23 k ((([] : List (Int × (Int × Int))) ++ ((([] : List (Int × (Int × Int))) ++ l) ++ [((6 : Int), (((l.length : Int) - (1 : Int)), (0 : Int)))])) ++ [((6 : Int), ((l.length : Int), (0 : Int)))]) w (fun (ret69v : Bool × Int) => VC24 k l w (fun (ret75v : Bool) => (((!ret75v) = true → K (((!decide (ret55v.2 = (0 : Int))) && (!decide (ret62v.2 = (0 : Int)))) && (!decide (ret69v.2 = (0 : Int))))) ∧ ((!ret75v) = false → (InR ((l.length : Int) + (4 : Int)) ∧ (((decide ((9 : Int) < ((l.length : Int) + (4 : Int)))) = true → K (!decide (ret62v.2 = (0 : Int)))) ∧ ((decide ((9 : Int) < ((l.length : Int) + (4 : Int)))) = false → VC23 k l w (fun (ret96v : Bool × Int) => K ((((((((decide (ret55v.2 = (0 : Int))) && (decide (ret62v.2 = (0 : Int)))) && (decide (ret69v.2 = (0 : Int)))) && (decide (ret96v.2 = (0 : Int)))) && (ret55v.1 == ret62v.1)) && (ret55v.1 == ret69v.1)) && ((!ret96v.1) || ret55v.1)) && ((decide ((0 : Int) < (w.length : Int))) || ret55v.1)))))))))))) (fun ret55v => [toV1 .bool ret55v.1, toV1 tI ret55v.2]) (fun ret55v => (⟨138, [sI 0 k, e6_3 l, e6_5 w, e6_4 l, e6_7, e6_6, (55, [], .tup [.c (.pB ret55v.1), .c (.pI ret55v.2)])], [e6_0 l, e6_1 l]⟩ : St)) (by kernel_rfl) rfl (by kernel_rfl) rfl (by kernel_rfl) Try.call23 (by kernel_rfl) (fun ret55v => by kernel_rfl) (fun _ _ => rfl) (fun hg => link23 k ((([] : List (Int × (Int × Int))) ++ l) ++ [((6 : Int), (((l.length : Int) - (1 : Int)), (0 : Int)))]) w _ h) (fun hg => noF hg) (fun ret55v h => ?_)
 refine rqT 5 ⟨138, [sI 0 k, e6_3 l, e6_5 w, e6_4 l, e6_7, e6_6, sB 11 ret55v.1, sI 12 ret55v.2], [e6_0 l, e6_1 l]⟩ (by kernel_rfl) ?_
 refine nsr ?_
 refine rqT 3 ⟨138, [sI 0 k, e6_3 l, e6_5 w, e6_4 l, e6_6, sB 11 ret55v.1, sI 12 ret55v.2, sI 59 k, s1 60 (.own 43), s1 61 (.pS w)], [e6_0 l, e6_1 l]⟩ (by kernel_rfl) ?_
 refine awl_callk (p := []) (l := [toV1 tI k, toV1 (.sl t3) ((([] : List (Int × (Int × Int))) ++ ((([] : List (Int × (Int × Int))) ++ l) ++ [((6 : Int), (((l.length : Int) - (1 : Int)), (0 : Int)))])) ++ [((4 : Int), (((l.length : Int) - (1 : Int)), (l.length : Int))), ((2 : Int), ((0 : Int), (0 : Int))), ((5 : Int), (((l.length : Int) + (1 : Int)), ((l.length : Int) + (2 : Int))))]), toV1 (.sl tI) w]) (cl := []) true [.d tI, .d (.sl t3), .d (.sl tI)] [0, 1, 2, 7, 10, 11, 12, 62] [50] (fun (ret62v : Bool × Int) => VC23 k ((([] : List (Int × (Int × Int))) ++ ((([] : List (Int × (Int × Int))) ++ l) ++ [((6 : Int), (((l.length : Int) - (1 : Int)), (0 : Int)))])) ++ [((6 : Int), ((l.length : Int), (0 : Int)))]) w (fun (ret69v : Bool × Int) => VC24 k l w (fun (ret75v : Bool) => (((!ret75v) = true → K (((!decide (ret55v.2 = (0 : Int))) && (!decide (ret62v.2 = (0 : Int)))) && (!decide (ret69v.2 = (0 : Int))))) ∧ ((!ret75v) = false → (InR ((l.length : Int) + (4 : Int)) ∧ (((decide ((9 : Int) < ((l.length : Int) + (4 : Int)))) = true → K (!decide (ret62v.2 = (0 : Int)))) ∧ ((decide ((9 : Int) < ((l.length : Int) + (4 : Int)))) = false → VC23 k l w (fun (ret96v : Bool × Int) => K ((((((((decide (ret55v.2 = (0 : Int))) && (decide (ret62v.2 = (0 : Int)))) && (decide (ret69v.2 = (0 : Int)))) && (decide (ret96v.2 = (0 : Int)))) && (ret55v.1 == ret62v.1)) && (ret55v.1 == ret69v.1)) && ((!ret96v.1) || ret55v.1)) && ((decide ((0 : Int) < (w.length : Int))) || ret55v.1))))))))))) (fun ret62v => [toV1 .bool ret62v.1, toV1 tI ret62v.2]) (fun ret62v => (⟨138, [sI 0 k, e6_3 l, e6_5 w, e6_4 l, e6_6, sB 11 ret55v.1, sI 12 ret55v.2, (62, [], .tup [.c (.pB ret62v.1), .c (.pI ret62v.2)])], [e6_1 l]⟩ : St)) (by kernel_rfl) rfl (by kernel_rfl) rfl (by kernel_rfl) Try.call23 (by kernel_rfl) (fun ret62v => by kernel_rfl) (fun _ _ => rfl) (fun hg => link23 k ((([] : List (Int × (Int × Int))) ++ ((([] : List (Int × (Int × Int))) ++ l) ++ [((6 : Int), (((l.length : Int) - (1 : Int)), (0 : Int)))])) ++ [((4 : Int), (((l.length : Int) - (1 : Int)), (l.length : Int))), ((2 : Int), ((0 : Int), (0 : Int))), ((5 : Int), (((l.length : Int) + (1 : Int)), ((l.length : Int) + (2 : Int))))]) w _ h) (fun hg => noF hg) (fun ret62v h => ?_)
 refine rqT 5 ⟨138, [sI 0 k, e6_3 l, e6_5 w, e6_4 l, e6_6, sB 11 ret55v.1, sI 12 ret55v.2, sB 13 ret62v.1, sI 14 ret62v.2], [e6_1 l]⟩ (by kernel_rfl) ?_
 refine nsr ?_
 refine rqT 3 ⟨138, [sI 0 k, e6_3 l, e6_5 w, e6_4 l, sB 11 ret55v.1, sI 12 ret55v.2, sB 13 ret62v.1, sI 14 ret62v.2, sI 66 k, s1 67 (.own 50), s1 68 (.pS w)], [e6_1 l]⟩ (by kernel_rfl) ?_
 refine awl_callk (p := []) (l := [toV1 tI k, toV1 (.sl t3) ((([] : List (Int × (Int × Int))) ++ ((([] : List (Int × (Int × Int))) ++ l) ++ [((6 : Int), (((l.length : Int) - (1 : Int)), (0 : Int)))])) ++ [((6 : Int), ((l.length : Int), (0 : Int)))]), toV1 (.sl tI) w]) (cl := []) true [.d tI, .d (.sl t3), .d (.sl tI)] [0, 1, 2, 7, 11, 12, 13, 14, 69] [] (fun (ret69v : Bool × Int) => VC24 k l w (fun (ret75v : Bool) => (((!ret75v) = true → K (((!decide (ret55v.2 = (0 : Int))) && (!decide (ret62v.2 = (0 : Int)))) && (!decide (ret69v.2 = (0 : Int))))) ∧ ((!ret75v) = false → (InR ((l.length : Int) + (4 : Int)) ∧ (((decide ((9 : Int) < ((l.length : Int) + (4 : Int)))) = true → K (!decide (ret62v.2 = (0 : Int)))) ∧ ((decide ((9 : Int) < ((l.length : Int) + (4 : Int)))) = false → VC23 k l w (fun (ret96v : Bool × Int) => K ((((((((decide (ret55v.2 = (0 : Int))) && (decide (ret62v.2 = (0 : Int)))) && (decide (ret69v.2 = (0 : Int)))) && (decide (ret96v.2 = (0 : Int)))) && (ret55v.1 == ret62v.1)) && (ret55v.1 == ret69v.1)) && ((!ret96v.1) || ret55v.1)) && ((decide ((0 : Int) < (w.length : Int))) || ret55v.1)))))))))) (fun ret69v => [toV1 .bool ret69v.1, toV1 tI ret69v.2]) (fun ret69v => (⟨138, [sI 0 k, e6_3 l, e6_5 w, e6_4 l, sB 11 ret55v.1, sI 12 ret55v.2, sB 13 ret62v.1, sI 14 ret62v.2, (69, [], .tup [.c (.pB ret69v.1), .c (.pI ret69v.2)])], []⟩ : St)) (by kernel_rfl) rfl (by kernel_rfl) rfl (by kernel_rfl) Try.call23 (by kernel_rfl) (fun ret69v => by kernel_rfl) (fun _ _ => rfl) (fun hg => link23 k ((([] : List (Int × (Int × Int))) ++ ((([] : List (Int × (Int × Int))) ++ l) ++ [((6 : Int), (((l.length : Int) - (1 : Int)), (0 : Int)))])) ++ [((6 : Int), ((l.length : Int), (0 : Int)))]) w _ h) (fun hg => noF hg) (fun ret69v h => ?_)
 refine rqT 5 ⟨138, [sI 0 k, e6_3 l, e6_5 w, e6_4 l, sB 11 ret55v.1, sI 12 ret55v.2, sB 13 ret62v.1, sI 14 ret62v.2, sB 15 ret69v.1, sI 16 ret69v.2], []⟩ (by kernel_rfl) ?_
 refine nn ?_
 refine aw_seq ?_
 refine sr ?_
 refine rqT 3 ⟨138, [sI 0 k, e6_3 l, e6_5 w, e6_4 l, sB 11 ret55v.1, sI 12 ret55v.2, sB 13 ret62v.1, sI 14 ret62v.2, sB 15 ret69v.1, sI 16 ret69v.2, sI 72 k, s1 73 (.p (.sl t3) l), s1 74 (.pS w)], []⟩ (by kernel_rfl) ?_
 refine lcq (d := 75) [.d tI, .d (.sl t3), .d (.sl tI)] (fun ret75v => (⟨138, [sI 0 k, e6_3 l, e6_5 w, e6_4 l, sB 11 ret55v.1, sI 12 ret55v.2, sB 13 ret62v.1, sI 14 ret62v.2, sB 15 ret69v.1, sI 16 ret69v.2, sB 75 ret75v], []⟩ : St)) (by kernel_rfl) Try.call24 (fun _ => by kernel_rfl) (link24 k l w _ h) (fun ret75v h => ?_)
 refine rqT 1 ⟨138, [sI 0 k, e6_3 l, e6_5 w, e6_4 l, sB 11 ret55v.1, sI 12 ret55v.2, sB 13 ret62v.1, sI 14 ret62v.2, sB 15 ret69v.1, sI 16 ret69v.2, sB 76 (!ret75v)], []⟩ (by kernel_rfl) ?_
 refine nn ?_
 refine aw_cond (b := (!ret75v)) (by kernel_rfl) (fun hb => ?_) (fun hb => ?_)
 ·have h := h.1 hb
  refine sr ?_
  refine rq 11 (ob := (Ts 3 (Ti 2 ((!decide (ret55v.2 = (0 : Int))) = true → True) (Ts 2 (Ti 2 (((!decide (ret55v.2 = (0 : Int))) && (!decide (ret62v.2 = (0 : Int)))) = true → True) (Ts 2 True)))))) (st' := (⟨138, [sB 6 (((!decide (ret55v.2 = (0 : Int))) && (!decide (ret62v.2 = (0 : Int)))) && (!decide (ret69v.2 = (0 : Int))))], []⟩ : St)) (by kernel_rfl) (tsI 3 (tiI 2 (fun _ => trivial) (tsI 2 (tiI 2 (fun _ => trivial) (tsI 2 trivial))))) ?_
  refine nn ?_
  refine aw_ret ?_
  refine thenQ_r ?_
  exact retQ_r (ob := Ts 1 True) _ (by kernel_rfl) (tsI 1 trivial) h
 ·have h := h.2 hb
  refine aw_skip ?_
  refine thenQ_n ?_
  refine aw_seq ?_
  refine sr ?_
  obtain ⟨o1, h⟩ := h
  refine rq 3 (ob := (Ts 1 (InR ((l.length : Int) + (4 : Int)) ∧ Ts 1 True))) (st' := (⟨138, [sI 0 k, e6_3 l, e6_5 w, sB 11 ret55v.1, sI 12 ret55v.2, sB 13 ret62v.1, sI 14 ret62v.2, sB 15 ret69v.1, sI 16 ret69v.2, sB 89 (decide ((9 : Int) < ((l.length : Int) + (4 : Int))))], []⟩ : St)) (by kernel_rfl) (tsI 1 ⟨o1, tsI 1 trivial⟩) ?_
  refine nn ?_
  refine aw_cond (b := (decide ((9 : Int) < ((l.length : Int) + (4 : Int))))) (by kernel_rfl) (fun hb => ?_) (fun hb => ?_)
  ·have h := h.1 hb
   refine srn 3 ⟨138, [sB 6 (!decide (ret62v.2 = (0 : Int)))], []⟩ (by kernel_rfl) rfl ?_
   refine aw_ret ?_
   refine thenQ_r ?_
   exact retQ_r (ob := Ts 1 True) _ (by kernel_rfl) (tsI 1 trivial) h
  ·have h := h.2 hb
   refine aw_skip ?_
   refine thenQ_n ?_
   refine sr ?_
   refine rqT 3 ⟨138, [e6_5 w, sB 11 ret55v.1, sI 12 ret55v.2, sB 13 ret62v.1, sI 14 ret62v.2, sB 15 ret69v.1, sI 16 ret69v.2, sI 93 k, s1 94 (.p (.sl t3) l), s1 95 (.pS w)], []⟩ (by kernel_rfl) ?_
   refine lcq (d := 96) [.d tI, .d (.sl t3), .d (.sl tI)] (fun ret96v => (⟨138, [e6_5 w, sB 11 ret55v.1, sI 12 ret55v.2, sB 13 ret62v.1, sI 14 ret62v.2, sB 15 ret69v.1, sI 16 ret69v.2, (96, [], .tup [.c (.pB ret96v.1), .c (.pI ret96v.2)])], []⟩ : St)) (by kernel_rfl) Try.call23 (fun _ => by kernel_rfl) (link23 k l w _ h) (fun ret96v h => ?_)
   refine rqT 5 ⟨138, [e6_5 w, sB 11 ret55v.1, sI 12 ret55v.2, sB 13 ret62v.1, sI 14 ret62v.2, sB 15 ret69v.1, sI 16 ret69v.2, sB 17 ret96v.1, sI 18 ret96v.2], []⟩ (by kernel_rfl) ?_
   refine nsr ?_
   refine rq 40 (ob := (Ts 3 (Ti 2 ((decide (ret55v.2 = (0 : Int))) = true → True) (Ts 2 (Ti 2 (((decide (ret55v.2 = (0 : Int))) && (decide (ret62v.2 = (0 : Int)))) = true → True) (Ts 2 (Ti 2 ((((decide (ret55v.2 = (0 : Int))) && (decide (ret62v.2 = (0 : Int)))) && (decide (ret69v.2 = (0 : Int)))) = true → True) (Ts 2 (Ti 3 (((((decide (ret55v.2 = (0 : Int))) && (decide (ret62v.2 = (0 : Int)))) && (decide (ret69v.2 = (0 : Int)))) && (decide (ret96v.2 = (0 : Int)))) = true → True) (Ts 2 (Ti 3 ((((((decide (ret55v.2 = (0 : Int))) && (decide (ret62v.2 = (0 : Int)))) && (decide (ret69v.2 = (0 : Int)))) && (decide (ret96v.2 = (0 : Int)))) && (ret55v.1 == ret62v.1)) = true → True) (Ts 2 (Ti 3 (((((((decide (ret55v.2 = (0 : Int))) && (decide (ret62v.2 = (0 : Int)))) && (decide (ret69v.2 = (0 : Int)))) && (decide (ret96v.2 = (0 : Int)))) && (ret55v.1 == ret62v.1)) && (ret55v.1 == ret69v.1)) = true → True) ((((((((decide (ret55v.2 = (0 : Int))) && (decide (ret62v.2 = (0 : Int)))) && (decide (ret69v.2 = (0 : Int)))) && (decide (ret96v.2 = (0 : Int)))) && (ret55v.1 == ret62v.1)) && (ret55v.1 == ret69v.1)) = true → ((!ret96v.1) = false → True)) ∧ (((((((decide (ret55v.2 = (0 : Int))) && (decide (ret62v.2 = (0 : Int)))) && (decide (ret69v.2 = (0 : Int)))) && (decide (ret96v.2 = (0 : Int)))) && (ret55v.1 == ret62v.1)) && (ret55v.1 == ret69v.1)) = true → True) ∧ Ts 2 (Ti 4 ((((((((decide (ret55v.2 = (0 : Int))) && (decide (ret62v.2 = (0 : Int)))) && (decide (ret69v.2 = (0 : Int)))) && (decide (ret96v.2 = (0 : Int)))) && (ret55v.1 == ret62v.1)) && (ret55v.1 == ret69v.1)) && ((!ret96v.1) || ret55v.1)) = true → True) (((((((((decide (ret55v.2 = (0 : Int))) && (decide (ret62v.2 = (0 : Int)))) && (decide (ret69v.2 = (0 : Int)))) && (decide (ret96v.2 = (0 : Int)))) && (ret55v.1 == ret62v.1)) && (ret55v.1 == ret69v.1)) && ((!ret96v.1) || ret55v.1)) = true → ((decide ((0 : Int) < (w.length : Int))) = false → True)) ∧ ((((((((decide (ret55v.2 = (0 : Int))) && (decide (ret62v.2 = (0 : Int)))) && (decide (ret69v.2 = (0 : Int)))) && (decide (ret96v.2 = (0 : Int)))) && (ret55v.1 == ret62v.1)) && (ret55v.1 == ret69v.1)) && ((!ret96v.1) || ret55v.1)) = true → True) ∧ Ts 2 True)))))))))))))))) (st' := (⟨138, [sB 6 ((((((((decide (ret55v.2 = (0 : Int))) && (decide (ret62v.2 = (0 : Int)))) && (decide (ret69v.2 = (0 : Int)))) && (decide (ret96v.2 = (0 : Int)))) && (ret55v.1 == ret62v.1)) && (ret55v.1 == ret69v.1)) && ((!ret96v.1) || ret55v.1)) && ((decide ((0 : Int) < (w.length : Int))) || ret55v.1))], []⟩ : St)) (by kernel_rfl) (tsI 3 (tiI 2 (fun _ => trivial) (tsI 2 (tiI 2 (fun _ => trivial) (tsI 2 (tiI 2 (fun _ => trivial) (tsI 2 (tiI 3 (fun _ => trivial) (tsI 2 (tiI 3 (fun _ => trivial) (tsI 2 (tiI 3 (fun _ => trivial) (⟨(fun _ _ => trivial), ⟨(fun _ => trivial), tsI 2 (tiI 4 (fun _ => trivial) (⟨(fun _ _ => trivial), ⟨(fun _ => trivial), tsI 2 trivial⟩⟩))⟩⟩))))))))))))) ?_
   refine nn ?_
   refine aw_ret ?_
   exact retQ_r (ob := Ts 1 True) _ (by kernel_rfl) (tsI 1 trivial) h
end Dec
