/-
Printed by dec2.py: of each function its plain demand, and that the demand gives the contract.
-/
import Derived.Test.YtckghdhnmpnljaaGenMa
set_option linter.unusedSimpArgs false
set_option linter.unusedVariables false
set_option maxRecDepth 100000
namespace Dec
open Go Go.RowKit Go.Proofs
abbrev e36_0 (i : Int) (u : LI) (w : LI) : Nat × Path × AV := sB 18 ((decide ((0 : Int) ≤ i)) && (decide ((i + (u.length : Int)) ≤ (w.length : Int))))
-- coppicer/coppicerref.At
def VC36 (w : LI) (u : LI) (i : Int) (K : Bool → Prop) : Prop :=
  (((decide ((0 : Int) ≤ i)) = true → InR (i + (u.length : Int))) ∧ (((decide ((0 : Int) ≤ i)) && (decide ((i + (u.length : Int)) ≤ (w.length : Int)))) = true → InR (i + (u.length : Int))) ∧ (((decide ((0 : Int) ≤ i)) && (decide ((i + (u.length : Int)) ≤ (w.length : Int)))) = true → (0 ≤ i ∧ i ≤ (i + (u.length : Int)) ∧ (i + (u.length : Int)) ≤ (w.length : Int))) ∧ gcall (α := Bool) ((decide ((0 : Int) ≤ i)) && (decide ((i + (u.length : Int)) ≤ (w.length : Int)))) (VC73 ((w.take ((i + (u.length : Int))).toNat).drop (i).toNat) u) false (fun (ret27v : Bool) => K (((decide ((0 : Int) ≤ i)) && (decide ((i + (u.length : Int)) ≤ (w.length : Int)))) && ret27v)))
set_option maxHeartbeats 4000000 in
theorem link36 (w : LI) (u : LI) (i : Int) (K : Bool → Prop) (h : VC36 w u i K) : ACalls Try.prog 36 [toV1 (.sl (.int .u8)) w, toV1 (.sl (.int .u8)) u, toV1 tI i] (fun res => ∃ y, res = (fun y => [toV1 .bool y]) y ∧ K y) := by
 refine acalls_of_aw [.bool] [.t 6] Try.func36 rfl rfl rfl ?_
 unfold VC36 at h
 refine sr ?_
 refine rqT 1 ⟨29, [s1 0 (.p (.sl (.int .u8)) w), s1 1 (.p (.sl (.int .u8)) u), sI 2 i], []⟩ (by kernel_rfl) ?_
 refine nsr ?_
 obtain ⟨o1, o2, o3, h⟩ := h
 refine rq 20 (ob := (Ts 3 (Ti 3 ((decide ((0 : Int) ≤ i)) = true → True) (((decide ((0 : Int) ≤ i)) = true → InR (i + (u.length : Int))) ∧ Ti 3 ((decide ((0 : Int) ≤ i)) = true → True) (Ts 2 (Ti 5 (((decide ((0 : Int) ≤ i)) && (decide ((i + (u.length : Int)) ≤ (w.length : Int)))) = true → True) ((((decide ((0 : Int) ≤ i)) && (decide ((i + (u.length : Int)) ≤ (w.length : Int)))) = true → InR (i + (u.length : Int))) ∧ (((decide ((0 : Int) ≤ i)) && (decide ((i + (u.length : Int)) ≤ (w.length : Int)))) = true → (0 ≤ i ∧ i ≤ (i + (u.length : Int)) ∧ (i + (u.length : Int)) ≤ (w.length : Int))) ∧ (((decide ((0 : Int) ≤ i)) && (decide ((i + (u.length : Int)) ≤ (w.length : Int)))) = true → True) ∧ True))))))) (st' := (⟨29, [e36_0 i u w, (25, [(18, true)], .v (.c (.p (.sl (.int .u8)) ((w.take ((i + (u.length : Int))).toNat).drop (i).toNat)))), (26, [(18, true)], .v (.c (.p (.sl (.int .u8)) u)))], []⟩ : St)) (by kernel_rfl) (tsI 3 (tiI 3 (fun _ => trivial) (⟨o1, tiI 3 (fun _ => trivial) (tsI 2 (tiI 5 (fun _ => trivial) (⟨o2, ⟨o3, ⟨(fun _ => trivial), trivial⟩⟩⟩)))⟩))) ?_
 refine awl_callk (p := [(18, true)]) (l := [toV1 (.sl (.int .u8)) ((w.take ((i + (u.length : Int))).toNat).drop (i).toNat), toV1 (.sl (.int .u8)) u]) (cl := []) false [.d (.sl (.int .u8)), .d (.sl (.int .u8))] [18, 27] [] (fun (ret27v : Bool) => K (((decide ((0 : Int) ≤ i)) && (decide ((i + (u.length : Int)) ≤ (w.length : Int)))) && ret27v)) (fun ret27v => [toV1 .bool ret27v]) (fun ret27v => (⟨29, [e36_0 i u w, (27, [(18, true)], .v (.c (.pB ret27v)))], []⟩ : St)) (by kernel_rfl) rfl (by kernel_rfl) rfl (by kernel_rfl) Try.call73 (by kernel_rfl) (fun ret27v => by kernel_rfl) (fun e => by cases e) (fun hg => link73 ((w.take ((i + (u.length : Int))).toNat).drop (i).toNat) u _ (by have := gcall_T h (show ((decide ((0 : Int) ≤ i)) && (decide ((i + (u.length : Int)) ≤ (w.length : Int)))) = true from hg); exact this)) (fun hg => ⟨false, by have := gcall_F h (show ((decide ((0 : Int) ≤ i)) && (decide ((i + (u.length : Int)) ≤ (w.length : Int)))) = false from hg); exact this⟩) (fun ret27v h => ?_)
 refine rqT 2 ⟨29, [sB 6 (((decide ((0 : Int) ≤ i)) && (decide ((i + (u.length : Int)) ≤ (w.length : Int)))) && ret27v)], []⟩ (by kernel_rfl) ?_
 refine nn ?_
 refine aw_ret ?_
 exact retQ_r (ob := Ts 1 True) _ (by kernel_rfl) (tsI 1 trivial) h
abbrev e12_0 (words : LL) : Nat × Path × AV := s1 0 (.p (.sl (.sl (.int .u8))) words)
abbrev e12_1 (text : LI) : Nat × Path × AV := s1 1 (.p (.sl (.int .u8)) text)
abbrev e12_2 (ret14v : LI × Int) : Nat × Path × AV := s1 5 (.pS ret14v.1)
abbrev e12_3 (words : LL) : Nat × Path × AV := s1 76 (.p (.sl (.sl (.int .u8))) words)
abbrev e12_4 (words : LL) : Nat × Path × AV := sI 77 (words.length : Int)
-- coppicer/coppicerkeep.ManyLongest
def VC12_k1 (K : Bool → Prop) : Prop :=
  K true
def VC12_k2 (K : Bool → Prop) (i : Int) (X1 : Int → Prop) (ok : Bool) : Prop :=
  (((!ok) = true → K false) ∧ ((!ok) = false → (InR (i + (1 : Int)) ∧ X1 (i + (1 : Int)))))
def VC12_l2 (words : LL) (text : LI) (K : Bool → Prop) (ret14v : LI × Int) (i : Int) (X1 : Int → Prop) (ok : Bool) (v78 : Int) (X2 : Bool × Int → Prop) : Prop :=
  (((decide (v78 < (words.length : Int))) = true → (inIdx v78 words.length ∧ ((ok = false → inIdx i ret14v.1.length) ∧ (ok = false → InR (i - (ret14v.1.getD (i).toNat (0 : Int)))) ∧ (ok = false → (0 ≤ (i - (ret14v.1.getD (i).toNat (0 : Int))) ∧ (i - (ret14v.1.getD (i).toNat (0 : Int))) ≤ i ∧ i ≤ (text.length : Int))) ∧ gcall (α := Bool) (!ok) (VC36 (words.getD (v78).toNat ([] : LI)) ((text.take (i).toNat).drop ((i - (ret14v.1.getD (i).toNat (0 : Int)))).toNat) (0 : Int)) false (fun (ret94v : Bool) => (InR (v78 + (1 : Int)) ∧ X2 ((ok || ret94v), (v78 + (1 : Int)))))))) ∧ ((decide (v78 < (words.length : Int))) = false → VC12_k2 K i X1 ok))
def VC12_l1 (words : LL) (text : LI) (K : Bool → Prop) (ret14v : LI × Int) (i : Int) (X1 : Int → Prop) : Prop :=
  (((decide (i < (ret14v.1.length : Int))) = true → (inIdx i ret14v.1.length ∧ ((decide ((ret14v.1.getD (i).toNat (0 : Int)) < (0 : Int))) = false → inIdx i ret14v.1.length) ∧ ((decide ((ret14v.1.getD (i).toNat (0 : Int)) < (0 : Int))) = false → InR (i - (1 : Int))) ∧ ((decide ((ret14v.1.getD (i).toNat (0 : Int)) < (0 : Int))) = false → inIdx (i - (1 : Int)) ret14v.1.length) ∧ ((decide ((ret14v.1.getD (i).toNat (0 : Int)) < (0 : Int))) = false → InR ((ret14v.1.getD ((i - (1 : Int))).toNat (0 : Int)) + (1 : Int))) ∧ (((decide ((ret14v.1.getD (i).toNat (0 : Int)) < (0 : Int))) || (decide (((ret14v.1.getD ((i - (1 : Int))).toNat (0 : Int)) + (1 : Int)) < (ret14v.1.getD (i).toNat (0 : Int))))) = false → inIdx i ret14v.1.length) ∧ (((((decide ((ret14v.1.getD (i).toNat (0 : Int)) < (0 : Int))) || (decide (((ret14v.1.getD ((i - (1 : Int))).toNat (0 : Int)) + (1 : Int)) < (ret14v.1.getD (i).toNat (0 : Int))))) || (decide (i < (ret14v.1.getD (i).toNat (0 : Int))))) = true → K false) ∧ ((((decide ((ret14v.1.getD (i).toNat (0 : Int)) < (0 : Int))) || (decide (((ret14v.1.getD ((i - (1 : Int))).toNat (0 : Int)) + (1 : Int)) < (ret14v.1.getD (i).toNat (0 : Int))))) || (decide (i < (ret14v.1.getD (i).toNat (0 : Int))))) = false → (inIdx i ret14v.1.length ∧ Loop (σ := Bool × Int) (fun s X => VC12_l2 words text K ret14v i X1 s.1 s.2 X) ((decide ((ret14v.1.getD (i).toNat (0 : Int)) = (0 : Int))), (0 : Int))))))) ∧ ((decide (i < (ret14v.1.length : Int))) = false → VC12_k1 K))
def VC12 (words : LL) (text : LI) (K : Bool → Prop) : Prop :=
  VC34 words text (fun (ret14v : LI × Int) => VC35 words text (fun (ret19v : Int) => (((!decide (ret19v = (0 : Int))) = true → K (!decide (ret14v.2 = (0 : Int)))) ∧ ((!decide (ret19v = (0 : Int))) = false → (((!decide (ret14v.2 = (0 : Int))) = false → InR ((text.length : Int) + (1 : Int))) ∧ (((!decide (ret14v.2 = (0 : Int))) || (!decide ((ret14v.1.length : Int) = ((text.length : Int) + (1 : Int))))) = false → inIdx (0 : Int) ret14v.1.length) ∧ (((((!decide (ret14v.2 = (0 : Int))) || (!decide ((ret14v.1.length : Int) = ((text.length : Int) + (1 : Int))))) || (!decide ((ret14v.1.getD ((0 : Int)).toNat (0 : Int)) = (0 : Int)))) = true → K false) ∧ ((((!decide (ret14v.2 = (0 : Int))) || (!decide ((ret14v.1.length : Int) = ((text.length : Int) + (1 : Int))))) || (!decide ((ret14v.1.getD ((0 : Int)).toNat (0 : Int)) = (0 : Int)))) = false → Loop (σ := Int) (fun s X => VC12_l1 words text K ret14v s X) (1 : Int))))))))
set_option maxHeartbeats 4000000 in
theorem link12 (words : LL) (text : LI) (K : Bool → Prop) (h : VC12 words text K) : ACalls Try.prog 12 [toV1 (.sl (.sl (.int .u8))) words, toV1 (.sl (.int .u8)) text] (fun res => ∃ y, res = (fun y => [toV1 .bool y]) y ∧ K y) := by
 refine acalls_of_aw [.bool] [.t 4] Try.func12 rfl rfl rfl ?_
 unfold VC12 at h
 refine sr ?_
 refine rqT 1 ⟨99, [e12_0 words, e12_1 text], []⟩ (by kernel_rfl) ?_
 refine nsr ?_
 refine rqT 2 ⟨99, [e12_0 words, e12_1 text, s1 12 (.p (.sl (.sl (.int .u8))) words), s1 13 (.p (.sl (.int .u8)) text)], []⟩ (by kernel_rfl) ?_
 refine lcq (d := 14) [.d (.sl (.sl (.int .u8))), .d (.sl (.int .u8))] (fun ret14v => (⟨99, [e12_0 words, e12_1 text, (14, [], .tup [.c (.pS ret14v.1), .c (.pI ret14v.2)])], []⟩ : St)) (by kernel_rfl) Try.call34 (fun _ => by kernel_rfl) (link34 words text _ h) (fun ret14v h => ?_)
 refine rqT 5 ⟨99, [e12_0 words, e12_1 text, e12_2 ret14v, sI 6 ret14v.2], []⟩ (by kernel_rfl) ?_
 refine nn ?_
 refine aw_seq ?_
 refine sr ?_
 refine rqT 2 ⟨99, [e12_0 words, e12_1 text, e12_2 ret14v, sI 6 ret14v.2, s1 17 (.p (.sl (.sl (.int .u8))) words), s1 18 (.p (.sl (.int .u8)) text)], []⟩ (by kernel_rfl) ?_
 refine lcq (d := 19) [.d (.sl (.sl (.int .u8))), .d (.sl (.int .u8))] (fun ret19v => (⟨99, [e12_0 words, e12_1 text, e12_2 ret14v, sI 6 ret14v.2, sI 19 ret19v], []⟩ : St)) (by kernel_rfl) Try.call35 (fun _ => by kernel_rfl) (link35 words text _ h) (fun ret19v h => ?_)
 refine rqT 1 ⟨99, [e12_0 words, e12_1 text, e12_2 ret14v, sI 6 ret14v.2, sB 20 (!decide (ret19v = (0 : Int)))], []⟩ (by kernel_rfl) ?_
 refine nn ?_
 refine aw_cond (b := (!decide (ret19v = (0 : Int)))) (by kernel_rfl) (fun hb => ?_) (fun hb => ?_)
 ·have h := h.1 hb
  refine srn 3 ⟨99, [sB 4 (!decide (ret14v.2 = (0 : Int)))], []⟩ (by kernel_rfl) rfl ?_
  refine aw_ret ?_
  refine thenQ_r ?_
  exact retQ_r (ob := Ts 1 True) _ (by kernel_rfl) (tsI 1 trivial) h
 ·have h := h.2 hb
  refine aw_skip ?_
  refine thenQ_n ?_
  refine aw_seq ?_
  refine sr ?_
  obtain ⟨o1, o2, h⟩ := h
  refine rq 16 (ob := (Ts 3 (Ti 4 ((!decide (ret14v.2 = (0 : Int))) = false → True) (((!decide (ret14v.2 = (0 : Int))) = false → InR ((text.length : Int) + (1 : Int))) ∧ ((!decide (ret14v.2 = (0 : Int))) = false → True) ∧ Ts 2 ((((!decide (ret14v.2 = (0 : Int))) || (!decide ((ret14v.1.length : Int) = ((text.length : Int) + (1 : Int))))) = false → True) ∧ (((!decide (ret14v.2 = (0 : Int))) || (!decide ((ret14v.1.length : Int) = ((text.length : Int) + (1 : Int))))) = false → inIdx (0 : Int) ret14v.1.length) ∧ Ti 2 (((!decide (ret14v.2 = (0 : Int))) || (!decide ((ret14v.1.length : Int) = ((text.length : Int) + (1 : Int))))) = false → True) (Ts 1 True)))))) (st' := (⟨99, [e12_0 words, e12_1 text, e12_2 ret14v, sB 38 (((!decide (ret14v.2 = (0 : Int))) || (!decide ((ret14v.1.length : Int) = ((text.length : Int) + (1 : Int))))) || (!decide ((ret14v.1.getD ((0 : Int)).toNat (0 : Int)) = (0 : Int))))], []⟩ : St)) (by kernel_rfl) (tsI 3 (tiI 4 (fun _ => trivial) (⟨o1, ⟨(fun _ => trivial), tsI 2 (⟨(fun _ => trivial), ⟨o2, tiI 2 (fun _ => trivial) (tsI 1 trivial)⟩⟩)⟩⟩))) ?_
  refine nn ?_
  refine aw_cond (b := (((!decide (ret14v.2 = (0 : Int))) || (!decide ((ret14v.1.length : Int) = ((text.length : Int) + (1 : Int))))) || (!decide ((ret14v.1.getD ((0 : Int)).toNat (0 : Int)) = (0 : Int))))) (by kernel_rfl) (fun hb => ?_) (fun hb => ?_)
  ·have h := h.1 hb
   refine srn 1 ⟨99, [sB 4 false], []⟩ (by kernel_rfl) rfl ?_
   refine aw_ret ?_
   refine thenQ_r ?_
   exact retQ_r (ob := Ts 1 True) _ (by kernel_rfl) (tsI 1 trivial) h
  ·have h := h.2 hb
   refine aw_skip ?_
   refine thenQ_n ?_
   refine aw_seq ?_
   refine srn 1 ⟨99, [e12_0 words, e12_1 text, e12_2 ret14v, sI 7 (1 : Int)], []⟩ (by kernel_rfl) rfl ?_
   refine withJoin (σ := Unit) (fun s => (⟨99, [], []⟩ : St)) (fun s => VC12_k1 K) (fun s h => ?_) (fun rest1 => ?_)
   ·have h : VC12_k1 K := h
    unfold VC12_k1 at h
    refine thenQ_n ?_
    refine srn 1 ⟨99, [sB 4 true], []⟩ (by kernel_rfl) rfl ?_
    refine aw_ret ?_
    exact retQ_r (ob := Ts 1 True) _ (by kernel_rfl) (tsI 1 trivial) h
   ·refine aw_block ?_
    refine aw_loop (σ := Int) (fun s => (⟨99, [e12_0 words, e12_1 text, e12_2 ret14v, sI 7 s], []⟩ : St)) (fun s X => VC12_l1 words text K ret14v s X) (s0 := (1 : Int)) (fun i X1 h => ?_) h
    have h : VC12_l1 words text K ret14v i X1 := h
    unfold VC12_l1 at h
    refine aw_seq ?_
    refine srn 4 ⟨99, [e12_0 words, e12_1 text, e12_2 ret14v, sI 7 i, sB 42 (decide (i < (ret14v.1.length : Int)))], []⟩ (by kernel_rfl) rfl ?_
    refine aw_cond (b := (decide (i < (ret14v.1.length : Int)))) (by kernel_rfl) (fun hb => ?_) (fun hb => ?_)
    ·have h := h.1 hb
     refine aw_skip ?_
     refine thenQ_n ?_
     refine aw_seq ?_
     refine aw_block ?_
     refine aw_seq ?_
     refine aw_seq ?_
     refine awd_begin [] (by kernel_rfl) ?_
     obtain ⟨o1, o2, o3, o4, o5, o6, h⟩ := h
     refine drq (by kernel_rfl) [0, 1, 2, 3, 4, 5, 6, 7, 8, 9, 10, 11, 12, 13, 14, 15, 16, 17, 18, 19, 20, 21, 22, 23, 24, 25] (ob := (Ts 2 (inIdx i ret14v.1.length ∧ Ts 3 (Ti 2 ((decide ((ret14v.1.getD (i).toNat (0 : Int)) < (0 : Int))) = false → True) (((decide ((ret14v.1.getD (i).toNat (0 : Int)) < (0 : Int))) = false → inIdx i ret14v.1.length) ∧ Ti 3 ((decide ((ret14v.1.getD (i).toNat (0 : Int)) < (0 : Int))) = false → True) (((decide ((ret14v.1.getD (i).toNat (0 : Int)) < (0 : Int))) = false → InR (i - (1 : Int))) ∧ ((decide ((ret14v.1.getD (i).toNat (0 : Int)) < (0 : Int))) = false → inIdx (i - (1 : Int)) ret14v.1.length) ∧ ((decide ((ret14v.1.getD (i).toNat (0 : Int)) < (0 : Int))) = false → True) ∧ ((decide ((ret14v.1.getD (i).toNat (0 : Int)) < (0 : Int))) = false → InR ((ret14v.1.getD ((i - (1 : Int))).toNat (0 : Int)) + (1 : Int))) ∧ ((decide ((ret14v.1.getD (i).toNat (0 : Int)) < (0 : Int))) = false → True) ∧ Ts 2 (Ti 2 (((decide ((ret14v.1.getD (i).toNat (0 : Int)) < (0 : Int))) || (decide (((ret14v.1.getD ((i - (1 : Int))).toNat (0 : Int)) + (1 : Int)) < (ret14v.1.getD (i).toNat (0 : Int))))) = false → True) ((((decide ((ret14v.1.getD (i).toNat (0 : Int)) < (0 : Int))) || (decide (((ret14v.1.getD ((i - (1 : Int))).toNat (0 : Int)) + (1 : Int)) < (ret14v.1.getD (i).toNat (0 : Int))))) = false → inIdx i ret14v.1.length) ∧ Ti 3 (((decide ((ret14v.1.getD (i).toNat (0 : Int)) < (0 : Int))) || (decide (((ret14v.1.getD ((i - (1 : Int))).toNat (0 : Int)) + (1 : Int)) < (ret14v.1.getD (i).toNat (0 : Int))))) = false → True) (Ts 1 True))))))))) (done' := [25, 24, 23, 22, 21, 20, 19, 18, 17, 16, 15, 14, 13, 12, 11, 10, 9, 8, 7, 6, 5, 4, 3, 2, 1, 0]) (st' := (⟨99, [e12_0 words, e12_1 text, e12_2 ret14v, sI 7 i, sB 70 (((decide ((ret14v.1.getD (i).toNat (0 : Int)) < (0 : Int))) || (decide (((ret14v.1.getD ((i - (1 : Int))).toNat (0 : Int)) + (1 : Int)) < (ret14v.1.getD (i).toNat (0 : Int))))) || (decide (i < (ret14v.1.getD (i).toNat (0 : Int)))))], []⟩ : St)) (by kernel_rfl) (tsI 2 (⟨o1, tsI 3 (tiI 2 (fun _ => trivial) (⟨o2, tiI 3 (fun _ => trivial) (⟨o3, ⟨o4, ⟨(fun _ => trivial), ⟨o5, ⟨(fun _ => trivial), tsI 2 (tiI 2 (fun _ => trivial) ⟨o6, tiI 3 (fun _ => trivial) (tsI 1 trivial)⟩)⟩⟩⟩⟩⟩)⟩))⟩)) ?_
     refine awd_done (by kernel_rfl) ?_
     refine thenQ_n ?_
     refine aw_cond (b := (((decide ((ret14v.1.getD (i).toNat (0 : Int)) < (0 : Int))) || (decide (((ret14v.1.getD ((i - (1 : Int))).toNat (0 : Int)) + (1 : Int)) < (ret14v.1.getD (i).toNat (0 : Int))))) || (decide (i < (ret14v.1.getD (i).toNat (0 : Int)))))) (by kernel_rfl) (fun hb => ?_) (fun hb => ?_)
     ·have h := h.1 hb
      refine srn 1 ⟨99, [sB 4 false], []⟩ (by kernel_rfl) rfl ?_
      refine aw_ret ?_
      refine thenQ_r ?_
      refine blockQ_r ?_
      refine thenQ_r ?_
      refine thenQ_r ?_
      refine blockQ_r ?_
      refine thenQ_r ?_
      exact retQ_r (ob := Ts 1 True) _ (by kernel_rfl) (tsI 1 trivial) h
     ·have h := h.2 hb
      refine aw_skip ?_
      refine thenQ_n ?_
      refine sr ?_
      obtain ⟨o1, h⟩ := h
      refine rq 6 (ob := (Ts 2 (inIdx i ret14v.1.length ∧ Ts 3 True))) (st' := (⟨99, [e12_0 words, e12_1 text, e12_2 ret14v, sI 7 i, sB 8 (decide ((ret14v.1.getD (i).toNat (0 : Int)) = (0 : Int)))], []⟩ : St)) (by kernel_rfl) (tsI 2 ⟨o1, tsI 3 trivial⟩) ?_
      refine nn ?_
      refine aw_seq ?_
      refine srn 3 ⟨99, [e12_0 words, e12_1 text, e12_2 ret14v, sI 7 i, sB 8 (decide ((ret14v.1.getD (i).toNat (0 : Int)) = (0 : Int))), e12_3 words, e12_4 words, sI 78 (0 : Int)], []⟩ (by kernel_rfl) rfl ?_
      refine withJoin (σ := Bool) (fun s => (⟨99, [e12_0 words, e12_1 text, e12_2 ret14v, sI 7 i, sB 8 s], []⟩ : St)) (fun s => VC12_k2 K i X1 s) (fun ok h => ?_) (fun rest2 => ?_)
      ·have h : VC12_k2 K i X1 ok := h
       unfold VC12_k2 at h
       refine thenQ_n ?_
       refine srn 2 ⟨99, [e12_0 words, e12_1 text, e12_2 ret14v, sI 7 i, sB 98 (!ok)], []⟩ (by kernel_rfl) rfl ?_
       refine aw_cond (b := (!ok)) (by kernel_rfl) (fun hb => ?_) (fun hb => ?_)
       ·have h := h.1 hb
        refine srn 1 ⟨99, [sB 4 false], []⟩ (by kernel_rfl) rfl ?_
        refine aw_ret ?_
        refine blockQ_r ?_
        refine thenQ_r ?_
        refine thenQ_r ?_
        refine blockQ_r ?_
        refine thenQ_r ?_
        exact retQ_r (ob := Ts 1 True) _ (by kernel_rfl) (tsI 1 trivial) h
       ·have h := h.2 hb
        refine aw_skip ?_
        refine blockQ_n ?_
        refine thenQ_n ?_
        refine aw_region ?_
        obtain ⟨o1, h⟩ := h
        refine rq 3 (ob := (Ts 1 (InR (i + (1 : Int)) ∧ Ts 1 True))) (st' := (⟨99, [e12_0 words, e12_1 text, e12_2 ret14v, sI 7 (i + (1 : Int))], []⟩ : St)) (by kernel_rfl) (tsI 1 ⟨o1, tsI 1 trivial⟩) ?_
        refine awl_nil ?_
        exact thenQ_n ⟨(i + (1 : Int)), rfl, h⟩
      ·refine aw_block ?_
       refine aw_loop (σ := Bool × Int) (fun s => (⟨99, [e12_0 words, e12_1 text, e12_2 ret14v, sI 7 i, sB 8 s.1, e12_3 words, e12_4 words, sI 78 s.2], []⟩ : St)) (fun s X => VC12_l2 words text K ret14v i X1 s.1 s.2 X) (s0 := ((decide ((ret14v.1.getD (i).toNat (0 : Int)) = (0 : Int))), (0 : Int))) (fun s X2 h => ?_) h
       obtain ⟨ok, v78⟩ := s
       have h : VC12_l2 words text K ret14v i X1 ok v78 X2 := h
       unfold VC12_l2 at h
       refine srn 1 ⟨99, [e12_0 words, e12_1 text, e12_2 ret14v, sI 7 i, sB 8 ok, e12_3 words, e12_4 words, sI 78 v78, sB 79 (decide (v78 < (words.length : Int)))], []⟩ (by kernel_rfl) rfl ?_
       refine aw_seq ?_
       refine aw_cond (b := (decide (v78 < (words.length : Int)))) (by kernel_rfl) (fun hb => ?_) (fun hb => ?_)
       ·have h := h.1 hb
        refine aw_skip ?_
        refine thenQ_n ?_
        refine aw_seq ?_
        refine aw_block ?_
        refine sr ?_
        obtain ⟨o1, h⟩ := h
        refine rq 3 (ob := (inIdx v78 words.length ∧ Ts 2 True)) (st' := (⟨99, [e12_0 words, e12_1 text, e12_2 ret14v, sI 7 i, sB 8 ok, s1 10 (.p (.sl (.int .u8)) (words.getD (v78).toNat ([] : LI))), e12_3 words, e12_4 words, sI 78 v78], []⟩ : St)) (by kernel_rfl) (⟨o1, tsI 2 trivial⟩) ?_
        refine nn ?_
        refine aw_region ?_
        obtain ⟨o1, o2, o3, h⟩ := h
        refine rq 12 (ob := (Ts 2 (Ti 5 (ok = false → True) ((ok = false → inIdx i ret14v.1.length) ∧ (ok = false → True) ∧ (ok = false → InR (i - (ret14v.1.getD (i).toNat (0 : Int)))) ∧ (ok = false → True) ∧ (ok = false → (0 ≤ (i - (ret14v.1.getD (i).toNat (0 : Int))) ∧ (i - (ret14v.1.getD (i).toNat (0 : Int))) ≤ i ∧ i ≤ (text.length : Int))) ∧ True)))) (st' := (⟨99, [e12_0 words, e12_1 text, e12_2 ret14v, sI 7 i, e12_3 words, e12_4 words, sI 78 v78, sB 83 ok, (84, [(83, false)], .v (.c (.p (.sl (.int .u8)) (words.getD (v78).toNat ([] : LI))))), (93, [(83, false)], .v (.c (.p (.sl (.int .u8)) ((text.take (i).toNat).drop ((i - (ret14v.1.getD (i).toNat (0 : Int)))).toNat))))], []⟩ : St)) (by kernel_rfl) (tsI 2 (tiI 5 (fun _ => trivial) (⟨o1, ⟨(fun _ => trivial), ⟨o2, ⟨(fun _ => trivial), ⟨o3, trivial⟩⟩⟩⟩⟩))) ?_
        refine awl_callk (p := [(83, false)]) (l := [toV1 (.sl (.int .u8)) (words.getD (v78).toNat ([] : LI)), toV1 (.sl (.int .u8)) ((text.take (i).toNat).drop ((i - (ret14v.1.getD (i).toNat (0 : Int)))).toNat), toV1 tI (0 : Int)]) (cl := []) false [.d (.sl (.int .u8)), .d (.sl (.int .u8)), .d tI] [0, 1, 5, 7, 76, 77, 78, 83, 94] [] (fun (ret94v : Bool) => (InR (v78 + (1 : Int)) ∧ X2 ((ok || ret94v), (v78 + (1 : Int))))) (fun ret94v => [toV1 .bool ret94v]) (fun ret94v => (⟨99, [e12_0 words, e12_1 text, e12_2 ret14v, sI 7 i, e12_3 words, e12_4 words, sI 78 v78, sB 83 ok, (94, [(83, false)], .v (.c (.pB ret94v)))], []⟩ : St)) (by kernel_rfl) rfl (by kernel_rfl) rfl (by kernel_rfl) Try.call36 (by kernel_rfl) (fun ret94v => by kernel_rfl) (fun e => by cases e) (fun hg => link36 (words.getD (v78).toNat ([] : LI)) ((text.take (i).toNat).drop ((i - (ret14v.1.getD (i).toNat (0 : Int)))).toNat) (0 : Int) _ (by have := gcall_T h (show (!ok) = true from hg); exact this)) (fun hg => ⟨false, by have := gcall_F h (show (!ok) = false from hg); exact this⟩) (fun ret94v h => ?_)
        refine rqT 2 ⟨99, [e12_0 words, e12_1 text, e12_2 ret14v, sI 7 i, sB 8 (ok || ret94v), e12_3 words, e12_4 words, sI 78 v78], []⟩ (by kernel_rfl) ?_
        refine awl_nil ?_
        refine blockQ_n ?_
        refine thenQ_n ?_
        refine aw_region ?_
        obtain ⟨o1, h⟩ := h
        refine rq 2 (ob := (InR (v78 + (1 : Int)) ∧ Ts 1 True)) (st' := (⟨99, [e12_0 words, e12_1 text, e12_2 ret14v, sI 7 i, sB 8 (ok || ret94v), e12_3 words, e12_4 words, sI 78 (v78 + (1 : Int))], []⟩ : St)) (by kernel_rfl) (⟨o1, tsI 1 trivial⟩) ?_
        refine awl_nil ?_
        exact thenQ_n ⟨((ok || ret94v), (v78 + (1 : Int))), rfl, h⟩
       ·have h := h.2 hb
        refine cpr (st' := (⟨99, [e12_0 words, e12_1 text, e12_2 ret14v, sI 7 i, sB 8 ok], []⟩ : St)) (by kernel_rfl) ?_
        refine aw_exit ?_
        refine thenQ_x ?_
        refine thenQ_x ?_
        refine blockQ_hit ?_
        exact rest2 ok h
    ·have h := h.2 hb
     refine cpr (st' := (⟨99, [], []⟩ : St)) (by kernel_rfl) ?_
     refine aw_exit ?_
     refine thenQ_x ?_
     refine thenQ_x ?_
     refine blockQ_hit ?_
     exact rest1 () h
end Dec
