/-
  Printed by dec.py: of each function its plain demand, and that the demand gives the contract.
-/
import Derived.Test.YtjjlefbbdnfjiaaGenA
set_option linter.unusedVariables false
set_option maxRecDepth 100000
namespace Dec
open Go Go.RowKit Go.Proofs

-- coppicer/begin.Again
def VC23_k1 (K : (List Int) × Int → Prop) (out : (List Int)) : Prop :=
  K (out, (0 : Int))

def VC23_k2 (v18 : Int) (X1 : Int × (List Int) → Prop) (out2 : (List Int)) : Prop :=
  (InR (v18 + (1 : Int)) ∧ X1 ((v18 + (1 : Int)), out2))

def VC23_l2 (w : (List Int)) (v18 : Int) (X1 : Int × (List Int) → Prop) (out2 : (List Int)) (X2 : (List Int) → Prop) : Prop :=
  (inIdx v18 out2.length ∧ InR (v18 + (out2.getD ((v18).toNat) (0 : Int))) ∧ ((decide ((v18 + (out2.getD ((v18).toNat) (0 : Int))) < (w.length : Int))) = true → inIdx v18 out2.length) ∧ ((decide ((v18 + (out2.getD ((v18).toNat) (0 : Int))) < (w.length : Int))) = true → inIdx (out2.getD ((v18).toNat) (0 : Int)) w.length) ∧ ((decide ((v18 + (out2.getD ((v18).toNat) (0 : Int))) < (w.length : Int))) = true → inIdx v18 out2.length) ∧ ((decide ((v18 + (out2.getD ((v18).toNat) (0 : Int))) < (w.length : Int))) = true → InR (v18 + (out2.getD ((v18).toNat) (0 : Int)))) ∧ ((decide ((v18 + (out2.getD ((v18).toNat) (0 : Int))) < (w.length : Int))) = true → inIdx (v18 + (out2.getD ((v18).toNat) (0 : Int))) w.length) ∧ ((((decide ((v18 + (out2.getD ((v18).toNat) (0 : Int))) < (w.length : Int))) && (decide ((w.getD ((out2.getD ((v18).toNat) (0 : Int))).toNat (0 : Int)) = (w.getD ((v18 + (out2.getD ((v18).toNat) (0 : Int)))).toNat (0 : Int))))) = true → (inIdx v18 out2.length ∧ InR ((out2.getD ((v18).toNat) (0 : Int)) + (1 : Int)) ∧ inIdx v18 out2.length ∧ X2 (out2.set ((v18).toNat) ((out2.getD ((v18).toNat) (0 : Int)) + (1 : Int))))) ∧ (((decide ((v18 + (out2.getD ((v18).toNat) (0 : Int))) < (w.length : Int))) && (decide ((w.getD ((out2.getD ((v18).toNat) (0 : Int))).toNat (0 : Int)) = (w.getD ((v18 + (out2.getD ((v18).toNat) (0 : Int)))).toNat (0 : Int))))) = false → VC23_k2 v18 X1 out2)))

def VC23_l1 (w : (List Int)) (K : (List Int) × Int → Prop) (v18 : Int) (out : (List Int)) (X1 : Int × (List Int) → Prop) : Prop :=
  (((decide (v18 < (w.length : Int))) = true → Loop (σ := (List Int)) (fun s X => VC23_l2 w v18 X1 s X) out) ∧ ((decide (v18 < (w.length : Int))) = false → VC23_k1 K out))

def VC23 (w : (List Int)) (K : (List Int) × Int → Prop) : Prop :=
  VC38 [w] (fun (ret9v : Int) => (((!decide (ret9v = (0 : Int))) = true → K (([] : (List Int)), ret9v)) ∧ ((!decide (ret9v = (0 : Int))) = false → (room (w.length : Int) ∧ Loop (σ := Int × (List Int)) (fun s X => VC23_l1 w K s.1 s.2 X) ((0 : Int), (List.replicate ((w.length : Int)).toNat (0 : Int)))))))

set_option maxHeartbeats 4000000 in
theorem link23 (w : (List Int)) (K : (List Int) × Int → Prop) (h : VC23 w K) : ACalls Try.prog 23 [toV1 (.sl (.int .u8)) w] (fun res => ∃ y, res = (fun y => [toV1 (.sl (.int .i64)) y.1, toV1 (.int .i64) y.2]) y ∧ K y) := by
  refine acalls_of_aw [(.sl (.int .i64)), (.int .i64)] [2, 3] Try.func23 rfl rfl rfl ?_
  unfold VC23 at h
  refine aw_seq ?_
  refine aw_region ?_
  refine awl_runp 2 [0] [] (ob := (True ∧ True ∧ True)) (st' := (⟨57, [(0, [], .v (.c (.p (.sl (.int .u8)) w)))], []⟩ : St)) (by kernel_rfl) ⟨trivial, trivial, trivial⟩ ?_
  refine awl_nil ?_
  refine thenQ_n ?_
  refine aw_seq ?_
  refine aw_seq ?_
  refine aw_region ?_
  refine awl_runp 2 [0, 8] [8] (ob := (True ∧ True ∧ True)) (st' := (⟨57, [(0, [], .v (.c (.p (.sl (.int .u8)) w))), (8, [], .v (.c (.own 8)))], [(8, [], .arr 22 (.sl (.int .u8)) [w])]⟩ : St)) (by kernel_rfl) ⟨trivial, trivial, trivial⟩ ?_
  refine awl_callk (p := []) (l := [toV1 (.sl (.sl (.int .u8))) [w]]) true [(.sl (.sl (.int .u8)))] [0, 9] [] (fun (ret9v : Int) => (((!decide (ret9v = (0 : Int))) = true → K (([] : (List Int)), ret9v)) ∧ ((!decide (ret9v = (0 : Int))) = false → (room (w.length : Int) ∧ Loop (σ := Int × (List Int)) (fun s X => VC23_l1 w K s.1 s.2 X) ((0 : Int), (List.replicate ((w.length : Int)).toNat (0 : Int))))))) (fun ret9v => [toV1 (.int .i64) ret9v]) (fun ret9v => (⟨57, [(0, [], .v (.c (.p (.sl (.int .u8)) w))), (9, [], .v (.c (.p (.int .i64) ret9v)))], []⟩ : St)) (by kernel_rfl) rfl (by kernel_rfl) rfl rfl Try.call38 (by kernel_rfl) (fun ret9v => by kernel_rfl) (fun _ _ => rfl) (fun hg => link38 [w] _ h) (fun hg => noF hg) (fun ret9v h => ?_)
  have h : (((!decide (ret9v = (0 : Int))) = true → K (([] : (List Int)), ret9v)) ∧ ((!decide (ret9v = (0 : Int))) = false → (room (w.length : Int) ∧ Loop (σ := Int × (List Int)) (fun s X => VC23_l1 w K s.1 s.2 X) ((0 : Int), (List.replicate ((w.length : Int)).toNat (0 : Int)))))) := h
  refine awl_runp 1 [0, 4] [] (ob := (True ∧ True)) (st' := (⟨57, [(0, [], .v (.c (.p (.sl (.int .u8)) w))), (4, [], .v (.c (.p (.int .i64) ret9v)))], []⟩ : St)) (by kernel_rfl) ⟨trivial, trivial⟩ ?_
  refine awl_nil ?_
  refine thenQ_n ?_
  refine aw_seq ?_
  refine aw_region ?_
  refine awl_runp 2 [0, 4, 11] [] (ob := (True ∧ True ∧ True)) (st' := (⟨57, [(0, [], .v (.c (.p (.sl (.int .u8)) w))), (4, [], .v (.c (.p (.int .i64) ret9v))), (11, [], .v (.c (.p .bool (!decide (ret9v = (0 : Int))))))], []⟩ : St)) (by kernel_rfl) ⟨trivial, trivial, trivial⟩ ?_
  refine awl_nil ?_
  refine thenQ_n ?_
  refine aw_cond (b := (!decide (ret9v = (0 : Int)))) (by kernel_rfl) (fun hb => ?_) (fun hb => ?_)
  · have h := h.1 hb
    refine aw_seq ?_
    refine aw_region ?_
    refine awl_runp 3 [2, 3] [] (ob := (True ∧ True ∧ True ∧ True)) (st' := (⟨57, [(2, [], .v (.c (.nils))), (3, [], .v (.c (.p (.int .i64) ret9v)))], []⟩ : St)) (by kernel_rfl) ⟨trivial, trivial, trivial, trivial⟩ ?_
    refine awl_nil ?_
    refine thenQ_n ?_
    refine aw_ret ?_
    refine thenQ_r ?_
    exact retQ_r (σ := (List Int) × Int) (R := (fun y => [toV1 (.sl (.int .i64)) y.1, toV1 (.int .i64) y.2])) (([] : (List Int)), ret9v) (by kernel_rfl) h
  · have h := h.2 hb
    refine aw_skip ?_
    refine thenQ_n ?_
    refine aw_seq ?_
    refine aw_region ?_
    obtain ⟨o1, h⟩ := h
    refine awl_runp 4 [0, 5] [15] (ob := (True ∧ True ∧ room (w.length : Int) ∧ True ∧ True)) (st' := (⟨57, [(0, [], .v (.c (.p (.sl (.int .u8)) w))), (5, [], .v (.c (.own 15)))], [(15, [], .arr 3 (.int .i64) (List.replicate ((w.length : Int)).toNat (0 : Int)))]⟩ : St)) (by kernel_rfl) ⟨trivial, trivial, o1, trivial, trivial⟩ ?_
    refine awl_nil ?_
    refine thenQ_n ?_
    refine aw_seq ?_
    refine aw_seq ?_
    refine aw_region ?_
    refine awl_runp 3 [0, 5, 17, 18] [15] (ob := (True ∧ True ∧ True ∧ True)) (st' := (⟨57, [(0, [], .v (.c (.p (.sl (.int .u8)) w))), (5, [], .v (.c (.own 15))), (17, [], .v (.c (.p (.int .i64) (w.length : Int)))), (18, [], .v (.c (.p (.int .i64) (0 : Int))))], [(15, [], .arr 3 (.int .i64) (List.replicate ((w.length : Int)).toNat (0 : Int)))]⟩ : St)) (by kernel_rfl) ⟨trivial, trivial, trivial, trivial⟩ ?_
    refine awl_nil ?_
    refine thenQ_n ?_
    refine withJoin (σ := (List Int)) (fun s => (⟨57, [(5, [], .v (.c (.own 15)))], [(15, [], .arr 3 (.int .i64) s)]⟩ : St)) (fun s => VC23_k1 K s) (fun out h => ?_) (fun rest1 => ?_)
    · have h : VC23_k1 K out := h
      unfold VC23_k1 at h
      refine thenQ_n ?_
      refine aw_seq ?_
      refine aw_region ?_
      refine awl_runp 3 [2, 3] [15] (ob := (True ∧ True ∧ True ∧ True)) (st' := (⟨57, [(2, [], .v (.c (.own 15))), (3, [], .v (.c (.p (.int .i64) (0 : Int))))], [(15, [], .arr 3 (.int .i64) out)]⟩ : St)) (by kernel_rfl) ⟨trivial, trivial, trivial, trivial⟩ ?_
      refine awl_nil ?_
      refine thenQ_n ?_
      refine aw_conv [.freeze 15] (st' := (⟨57, [(2, [], .v (.c (.p (.sl (.int .i64)) out))), (3, [], .v (.c (.p (.int .i64) (0 : Int))))], []⟩ : St)) (by kernel_rfl) ?_
      refine aw_ret ?_
      exact retQ_r (σ := (List Int) × Int) (R := (fun y => [toV1 (.sl (.int .i64)) y.1, toV1 (.int .i64) y.2])) (out, (0 : Int)) (by kernel_rfl) h
    · refine aw_block ?_
      refine aw_loop (σ := Int × (List Int)) (fun s => (⟨57, [(0, [], .v (.c (.p (.sl (.int .u8)) w))), (5, [], .v (.c (.own 15))), (17, [], .v (.c (.p (.int .i64) (w.length : Int)))), (18, [], .v (.c (.p (.int .i64) s.1)))], [(15, [], .arr 3 (.int .i64) s.2)]⟩ : St)) (fun s X => VC23_l1 w K s.1 s.2 X) (s0 := ((0 : Int), (List.replicate ((w.length : Int)).toNat (0 : Int)))) (fun s X1 h => ?_) h
      obtain ⟨v18, out⟩ := s
      have h : VC23_l1 w K v18 out X1 := h
      unfold VC23_l1 at h
      refine aw_seq ?_
      refine aw_region ?_
      refine awl_runp 1 [0, 5, 17, 18, 19] [15] (ob := (True ∧ True)) (st' := (⟨57, [(0, [], .v (.c (.p (.sl (.int .u8)) w))), (5, [], .v (.c (.own 15))), (17, [], .v (.c (.p (.int .i64) (w.length : Int)))), (18, [], .v (.c (.p (.int .i64) v18))), (19, [], .v (.c (.p .bool (decide (v18 < (w.length : Int))))))], [(15, [], .arr 3 (.int .i64) out)]⟩ : St)) (by kernel_rfl) ⟨trivial, trivial⟩ ?_
      refine awl_nil ?_
      refine thenQ_n ?_
      refine aw_seq ?_
      refine aw_cond (b := (decide (v18 < (w.length : Int)))) (by kernel_rfl) (fun hb => ?_) (fun hb => ?_)
      · have h := h.1 hb
        refine aw_skip ?_
        refine thenQ_n ?_
        refine aw_seq ?_
        refine aw_block ?_
        refine aw_seq ?_
        refine aw_region ?_
        refine awl_runp 2 [0, 5, 6, 17, 18] [15] (ob := (True ∧ True ∧ True)) (st' := (⟨57, [(0, [], .v (.c (.p (.sl (.int .u8)) w))), (5, [], .v (.c (.own 15))), (6, [], .v (.c (.p (.int .i64) v18))), (17, [], .v (.c (.p (.int .i64) (w.length : Int)))), (18, [], .v (.c (.p (.int .i64) v18)))], [(15, [], .arr 3 (.int .i64) out)]⟩ : St)) (by kernel_rfl) ⟨trivial, trivial, trivial⟩ ?_
        refine awl_nil ?_
        refine thenQ_n ?_
        refine withJoin (σ := (List Int)) (fun s => (⟨57, [(0, [], .v (.c (.p (.sl (.int .u8)) w))), (5, [], .v (.c (.own 15))), (17, [], .v (.c (.p (.int .i64) (w.length : Int)))), (18, [], .v (.c (.p (.int .i64) v18)))], [(15, [], .arr 3 (.int .i64) s)]⟩ : St)) (fun s => VC23_k2 v18 X1 s) (fun out2 h => ?_) (fun rest2 => ?_)
        · have h : VC23_k2 v18 X1 out2 := h
          unfold VC23_k2 at h
          refine blockQ_n ?_
          refine thenQ_n ?_
          refine aw_region ?_
          obtain ⟨o1, h⟩ := h
          refine awl_runp 2 [0, 5, 17, 18] [15] (ob := (InR (v18 + (1 : Int)) ∧ True ∧ True)) (st' := (⟨57, [(0, [], .v (.c (.p (.sl (.int .u8)) w))), (5, [], .v (.c (.own 15))), (17, [], .v (.c (.p (.int .i64) (w.length : Int)))), (18, [], .v (.c (.p (.int .i64) (v18 + (1 : Int)))))], [(15, [], .arr 3 (.int .i64) out2)]⟩ : St)) (by kernel_rfl) ⟨o1, trivial, trivial⟩ ?_
          refine awl_nil ?_
          exact thenQ_n ⟨((v18 + (1 : Int)), out2), rfl, h⟩
        · refine aw_block ?_
          refine aw_loop (σ := (List Int)) (fun s => (⟨57, [(0, [], .v (.c (.p (.sl (.int .u8)) w))), (5, [], .v (.c (.own 15))), (6, [], .v (.c (.p (.int .i64) v18))), (17, [], .v (.c (.p (.int .i64) (w.length : Int)))), (18, [], .v (.c (.p (.int .i64) v18)))], [(15, [], .arr 3 (.int .i64) s)]⟩ : St)) (fun s X => VC23_l2 w v18 X1 s X) (s0 := out) (fun out2 X2 h => ?_) h
          have h : VC23_l2 w v18 X1 out2 X2 := h
          unfold VC23_l2 at h
          refine aw_seq ?_
          refine aw_seq ?_
          refine awd_begin (by kernel_rfl) ?_
          obtain ⟨o1, o2, o3, o4, o5, o6, o7, h⟩ := h
          refine awd_runp (by kernel_rfl) [0, 1, 2, 3, 4, 5, 6, 7, 8, 9, 10, 11, 12, 13, 14, 15, 16, 17, 18, 19, 20, 21, 22, 23, 24, 25, 26, 27] [0, 5, 6, 17, 18, 48] [15] (ob := (True ∧ True ∧ True ∧ inIdx v18 out2.length ∧ True ∧ InR (v18 + (out2.getD ((v18).toNat) (0 : Int))) ∧ True ∧ True ∧ True ∧ True ∧ ((decide ((v18 + (out2.getD ((v18).toNat) (0 : Int))) < (w.length : Int))) = true → True) ∧ ((decide ((v18 + (out2.getD ((v18).toNat) (0 : Int))) < (w.length : Int))) = true → True) ∧ ((decide ((v18 + (out2.getD ((v18).toNat) (0 : Int))) < (w.length : Int))) = true → True) ∧ ((decide ((v18 + (out2.getD ((v18).toNat) (0 : Int))) < (w.length : Int))) = true → inIdx v18 out2.length) ∧ ((decide ((v18 + (out2.getD ((v18).toNat) (0 : Int))) < (w.length : Int))) = true → True) ∧ ((decide ((v18 + (out2.getD ((v18).toNat) (0 : Int))) < (w.length : Int))) = true → inIdx (out2.getD ((v18).toNat) (0 : Int)) w.length) ∧ ((decide ((v18 + (out2.getD ((v18).toNat) (0 : Int))) < (w.length : Int))) = true → True) ∧ ((decide ((v18 + (out2.getD ((v18).toNat) (0 : Int))) < (w.length : Int))) = true → True) ∧ ((decide ((v18 + (out2.getD ((v18).toNat) (0 : Int))) < (w.length : Int))) = true → True) ∧ ((decide ((v18 + (out2.getD ((v18).toNat) (0 : Int))) < (w.length : Int))) = true → True) ∧ ((decide ((v18 + (out2.getD ((v18).toNat) (0 : Int))) < (w.length : Int))) = true → True) ∧ ((decide ((v18 + (out2.getD ((v18).toNat) (0 : Int))) < (w.length : Int))) = true → inIdx v18 out2.length) ∧ ((decide ((v18 + (out2.getD ((v18).toNat) (0 : Int))) < (w.length : Int))) = true → True) ∧ ((decide ((v18 + (out2.getD ((v18).toNat) (0 : Int))) < (w.length : Int))) = true → InR (v18 + (out2.getD ((v18).toNat) (0 : Int)))) ∧ ((decide ((v18 + (out2.getD ((v18).toNat) (0 : Int))) < (w.length : Int))) = true → inIdx (v18 + (out2.getD ((v18).toNat) (0 : Int))) w.length) ∧ ((decide ((v18 + (out2.getD ((v18).toNat) (0 : Int))) < (w.length : Int))) = true → True) ∧ ((decide ((v18 + (out2.getD ((v18).toNat) (0 : Int))) < (w.length : Int))) = true → True) ∧ True ∧ True)) (done' := [27, 26, 25, 24, 23, 22, 21, 20, 19, 18, 17, 16, 15, 14, 13, 12, 11, 10, 9, 8, 7, 6, 5, 4, 3, 2, 1, 0]) (st' := (⟨57, [(0, [], .v (.c (.p (.sl (.int .u8)) w))), (5, [], .v (.c (.own 15))), (6, [], .v (.c (.p (.int .i64) v18))), (17, [], .v (.c (.p (.int .i64) (w.length : Int)))), (18, [], .v (.c (.p (.int .i64) v18))), (48, [], .v (.c (.p .bool ((decide ((v18 + (out2.getD ((v18).toNat) (0 : Int))) < (w.length : Int))) && (decide ((w.getD ((out2.getD ((v18).toNat) (0 : Int))).toNat (0 : Int)) = (w.getD ((v18 + (out2.getD ((v18).toNat) (0 : Int)))).toNat (0 : Int))))))))], [(15, [], .arr 3 (.int .i64) out2)]⟩ : St)) (by kernel_rfl) ⟨trivial, trivial, trivial, o1, trivial, o2, trivial, trivial, trivial, trivial, (fun _ => trivial), (fun _ => trivial), (fun _ => trivial), o3, (fun _ => trivial), o4, (fun _ => trivial), (fun _ => trivial), (fun _ => trivial), (fun _ => trivial), (fun _ => trivial), o5, (fun _ => trivial), o6, o7, (fun _ => trivial), (fun _ => trivial), trivial, trivial⟩ ?_
          refine awd_done (by kernel_rfl) ?_
          refine thenQ_n ?_
          refine aw_cond (b := ((decide ((v18 + (out2.getD ((v18).toNat) (0 : Int))) < (w.length : Int))) && (decide ((w.getD ((out2.getD ((v18).toNat) (0 : Int))).toNat (0 : Int)) = (w.getD ((v18 + (out2.getD ((v18).toNat) (0 : Int)))).toNat (0 : Int)))))) (by kernel_rfl) (fun hb => ?_) (fun hb => ?_)
          · have h := h.1 hb
            refine aw_skip ?_
            refine thenQ_n ?_
            refine aw_block ?_
            refine aw_region ?_
            obtain ⟨o1, o2, o3, h⟩ := h
            refine awl_runp 7 [0, 5, 6, 17, 18] [15] (ob := (True ∧ True ∧ inIdx v18 out2.length ∧ True ∧ InR ((out2.getD ((v18).toNat) (0 : Int)) + (1 : Int)) ∧ inIdx v18 out2.length ∧ True ∧ True)) (st' := (⟨57, [(0, [], .v (.c (.p (.sl (.int .u8)) w))), (5, [], .v (.c (.own 15))), (6, [], .v (.c (.p (.int .i64) v18))), (17, [], .v (.c (.p (.int .i64) (w.length : Int)))), (18, [], .v (.c (.p (.int .i64) v18)))], [(15, [], .arr 3 (.int .i64) (out2.set ((v18).toNat) ((out2.getD ((v18).toNat) (0 : Int)) + (1 : Int))))]⟩ : St)) (by kernel_rfl) ⟨trivial, trivial, o1, trivial, o2, o3, trivial, trivial⟩ ?_
            refine awl_nil ?_
            refine blockQ_n ?_
            exact thenQ_n ⟨(out2.set ((v18).toNat) ((out2.getD ((v18).toNat) (0 : Int)) + (1 : Int))), rfl, h⟩
          · have h := h.2 hb
            refine aw_conv [.prune [0, 5, 17, 18] [15]] (st' := (⟨57, [(0, [], .v (.c (.p (.sl (.int .u8)) w))), (5, [], .v (.c (.own 15))), (17, [], .v (.c (.p (.int .i64) (w.length : Int)))), (18, [], .v (.c (.p (.int .i64) v18)))], [(15, [], .arr 3 (.int .i64) out2)]⟩ : St)) (by kernel_rfl) ?_
            refine aw_exit ?_
            refine thenQ_x ?_
            refine thenQ_x ?_
            refine blockQ_hit ?_
            exact rest2 out2 h
      · have h := h.2 hb
        refine aw_conv [.prune [5] [15]] (st' := (⟨57, [(5, [], .v (.c (.own 15)))], [(15, [], .arr 3 (.int .i64) out)]⟩ : St)) (by kernel_rfl) ?_
        refine aw_exit ?_
        refine thenQ_x ?_
        refine thenQ_x ?_
        refine blockQ_hit ?_
        exact rest1 out h

-- coppicer/coppicerkeep.BeginPeriods
def VC6 (w : (List Int)) (p : Int) (K : Bool → Prop) : Prop :=
  VC23 w (fun (ret11v : (List Int) × Int) => VC16 [w] (fun (ret16v : Bool) => ((ret16v = true → K (!decide (ret11v.2 = (0 : Int)))) ∧ (ret16v = false → ((((!decide (ret11v.2 = (0 : Int))) || (!decide ((ret11v.1.length : Int) = (w.length : Int)))) = true → K false) ∧ (((!decide (ret11v.2 = (0 : Int))) || (!decide ((ret11v.1.length : Int) = (w.length : Int)))) = false → VC15 w p (fun (ret31v : Bool × Int) => ((((decide (p < (1 : Int))) || (decide ((w.length : Int) ≤ p))) = true → ((((decide (ret31v.2 = (0 : Int))) && (ret31v.1 == ((decide (p = (w.length : Int))) && (decide ((0 : Int) < p))))) = true → ((decide ((w.length : Int) = (0 : Int))) = false → inIdx (0 : Int) ret11v.1.length)) ∧ K (((decide (ret31v.2 = (0 : Int))) && (ret31v.1 == ((decide (p = (w.length : Int))) && (decide ((0 : Int) < p))))) && ((decide ((w.length : Int) = (0 : Int))) || (decide ((ret11v.1.getD ((0 : Int)).toNat (0 : Int)) = (w.length : Int))))))) ∧ (((decide (p < (1 : Int))) || (decide ((w.length : Int) ≤ p))) = false → (((decide (ret31v.2 = (0 : Int))) = true → inIdx p ret11v.1.length) ∧ ((decide (ret31v.2 = (0 : Int))) = true → InR ((w.length : Int) - p)) ∧ K ((decide (ret31v.2 = (0 : Int))) && (ret31v.1 == (decide ((ret11v.1.getD (p).toNat (0 : Int)) = ((w.length : Int) - p)))))))))))))))

set_option maxHeartbeats 4000000 in
theorem link6 (w : (List Int)) (p : Int) (K : Bool → Prop) (h : VC6 w p K) : ACalls Try.prog 6 [toV1 (.sl (.int .u8)) w, toV1 (.int .i64) p] (fun res => ∃ y, res = (fun y => [toV1 .bool y]) y ∧ K y) := by
  refine acalls_of_aw [.bool] [4] Try.func6 rfl rfl rfl ?_
  unfold VC6 at h
  refine aw_seq ?_
  refine aw_region ?_
  refine awl_runp 1 [0, 1] [] (ob := (True ∧ True)) (st' := (⟨84, [(0, [], .v (.c (.p (.sl (.int .u8)) w))), (1, [], .v (.c (.p (.int .i64) p)))], []⟩ : St)) (by kernel_rfl) ⟨trivial, trivial⟩ ?_
  refine awl_nil ?_
  refine thenQ_n ?_
  refine aw_seq ?_
  refine aw_region ?_
  refine awl_runp 1 [0, 1, 10] [] (ob := (True ∧ True)) (st' := (⟨84, [(0, [], .v (.c (.p (.sl (.int .u8)) w))), (1, [], .v (.c (.p (.int .i64) p))), (10, [], .v (.c (.p (.sl (.int .u8)) w)))], []⟩ : St)) (by kernel_rfl) ⟨trivial, trivial⟩ ?_
  refine awl_callk (p := []) (l := [toV1 (.sl (.int .u8)) w]) false [(.sl (.int .u8))] [0, 1, 11] [] (fun (ret11v : (List Int) × Int) => VC16 [w] (fun (ret16v : Bool) => ((ret16v = true → K (!decide (ret11v.2 = (0 : Int)))) ∧ (ret16v = false → ((((!decide (ret11v.2 = (0 : Int))) || (!decide ((ret11v.1.length : Int) = (w.length : Int)))) = true → K false) ∧ (((!decide (ret11v.2 = (0 : Int))) || (!decide ((ret11v.1.length : Int) = (w.length : Int)))) = false → VC15 w p (fun (ret31v : Bool × Int) => ((((decide (p < (1 : Int))) || (decide ((w.length : Int) ≤ p))) = true → ((((decide (ret31v.2 = (0 : Int))) && (ret31v.1 == ((decide (p = (w.length : Int))) && (decide ((0 : Int) < p))))) = true → ((decide ((w.length : Int) = (0 : Int))) = false → inIdx (0 : Int) ret11v.1.length)) ∧ K (((decide (ret31v.2 = (0 : Int))) && (ret31v.1 == ((decide (p = (w.length : Int))) && (decide ((0 : Int) < p))))) && ((decide ((w.length : Int) = (0 : Int))) || (decide ((ret11v.1.getD ((0 : Int)).toNat (0 : Int)) = (w.length : Int))))))) ∧ (((decide (p < (1 : Int))) || (decide ((w.length : Int) ≤ p))) = false → (((decide (ret31v.2 = (0 : Int))) = true → inIdx p ret11v.1.length) ∧ ((decide (ret31v.2 = (0 : Int))) = true → InR ((w.length : Int) - p)) ∧ K ((decide (ret31v.2 = (0 : Int))) && (ret31v.1 == (decide ((ret11v.1.getD (p).toNat (0 : Int)) = ((w.length : Int) - p))))))))))))))) (fun ret11v => [toV1 (.sl (.int .i64)) ret11v.1, toV1 (.int .i64) ret11v.2]) (fun ret11v => (⟨84, [(0, [], .v (.c (.p (.sl (.int .u8)) w))), (1, [], .v (.c (.p (.int .i64) p))), (11, [], .tup [.c (.p (.sl (.int .i64)) ret11v.1), .c (.p (.int .i64) ret11v.2)])], []⟩ : St)) (by kernel_rfl) rfl (by kernel_rfl) rfl rfl Try.call23 (by kernel_rfl) (fun ret11v => by kernel_rfl) (fun e => by cases e) (fun hg => link23 w _ h) (fun hg => noF hg) (fun ret11v h => ?_)
  have h : VC16 [w] (fun (ret16v : Bool) => ((ret16v = true → K (!decide (ret11v.2 = (0 : Int)))) ∧ (ret16v = false → ((((!decide (ret11v.2 = (0 : Int))) || (!decide ((ret11v.1.length : Int) = (w.length : Int)))) = true → K false) ∧ (((!decide (ret11v.2 = (0 : Int))) || (!decide ((ret11v.1.length : Int) = (w.length : Int)))) = false → VC15 w p (fun (ret31v : Bool × Int) => ((((decide (p < (1 : Int))) || (decide ((w.length : Int) ≤ p))) = true → ((((decide (ret31v.2 = (0 : Int))) && (ret31v.1 == ((decide (p = (w.length : Int))) && (decide ((0 : Int) < p))))) = true → ((decide ((w.length : Int) = (0 : Int))) = false → inIdx (0 : Int) ret11v.1.length)) ∧ K (((decide (ret31v.2 = (0 : Int))) && (ret31v.1 == ((decide (p = (w.length : Int))) && (decide ((0 : Int) < p))))) && ((decide ((w.length : Int) = (0 : Int))) || (decide ((ret11v.1.getD ((0 : Int)).toNat (0 : Int)) = (w.length : Int))))))) ∧ (((decide (p < (1 : Int))) || (decide ((w.length : Int) ≤ p))) = false → (((decide (ret31v.2 = (0 : Int))) = true → inIdx p ret11v.1.length) ∧ ((decide (ret31v.2 = (0 : Int))) = true → InR ((w.length : Int) - p)) ∧ K ((decide (ret31v.2 = (0 : Int))) && (ret31v.1 == (decide ((ret11v.1.getD (p).toNat (0 : Int)) = ((w.length : Int) - p)))))))))))))) := h
  refine awl_runp 5 [0, 1, 5, 6] [] (ob := (True ∧ True ∧ True ∧ True ∧ True ∧ True)) (st' := (⟨84, [(0, [], .v (.c (.p (.sl (.int .u8)) w))), (1, [], .v (.c (.p (.int .i64) p))), (5, [], .v (.c (.p (.sl (.int .i64)) ret11v.1))), (6, [], .v (.c (.p (.int .i64) ret11v.2)))], []⟩ : St)) (by kernel_rfl) ⟨trivial, trivial, trivial, trivial, trivial, trivial⟩ ?_
  refine awl_nil ?_
  refine thenQ_n ?_
  refine aw_seq ?_
  refine aw_seq ?_
  refine aw_region ?_
  refine awl_runp 2 [0, 1, 5, 6, 15] [15] (ob := (True ∧ True ∧ True)) (st' := (⟨84, [(0, [], .v (.c (.p (.sl (.int .u8)) w))), (1, [], .v (.c (.p (.int .i64) p))), (5, [], .v (.c (.p (.sl (.int .i64)) ret11v.1))), (6, [], .v (.c (.p (.int .i64) ret11v.2))), (15, [], .v (.c (.own 15)))], [(15, [], .arr 22 (.sl (.int .u8)) [w])]⟩ : St)) (by kernel_rfl) ⟨trivial, trivial, trivial⟩ ?_
  refine awl_callk (p := []) (l := [toV1 (.sl (.sl (.int .u8))) [w]]) true [(.sl (.sl (.int .u8)))] [0, 1, 5, 6, 16] [] (fun (ret16v : Bool) => ((ret16v = true → K (!decide (ret11v.2 = (0 : Int)))) ∧ (ret16v = false → ((((!decide (ret11v.2 = (0 : Int))) || (!decide ((ret11v.1.length : Int) = (w.length : Int)))) = true → K false) ∧ (((!decide (ret11v.2 = (0 : Int))) || (!decide ((ret11v.1.length : Int) = (w.length : Int)))) = false → VC15 w p (fun (ret31v : Bool × Int) => ((((decide (p < (1 : Int))) || (decide ((w.length : Int) ≤ p))) = true → ((((decide (ret31v.2 = (0 : Int))) && (ret31v.1 == ((decide (p = (w.length : Int))) && (decide ((0 : Int) < p))))) = true → ((decide ((w.length : Int) = (0 : Int))) = false → inIdx (0 : Int) ret11v.1.length)) ∧ K (((decide (ret31v.2 = (0 : Int))) && (ret31v.1 == ((decide (p = (w.length : Int))) && (decide ((0 : Int) < p))))) && ((decide ((w.length : Int) = (0 : Int))) || (decide ((ret11v.1.getD ((0 : Int)).toNat (0 : Int)) = (w.length : Int))))))) ∧ (((decide (p < (1 : Int))) || (decide ((w.length : Int) ≤ p))) = false → (((decide (ret31v.2 = (0 : Int))) = true → inIdx p ret11v.1.length) ∧ ((decide (ret31v.2 = (0 : Int))) = true → InR ((w.length : Int) - p)) ∧ K ((decide (ret31v.2 = (0 : Int))) && (ret31v.1 == (decide ((ret11v.1.getD (p).toNat (0 : Int)) = ((w.length : Int) - p)))))))))))))) (fun ret16v => [toV1 .bool ret16v]) (fun ret16v => (⟨84, [(0, [], .v (.c (.p (.sl (.int .u8)) w))), (1, [], .v (.c (.p (.int .i64) p))), (5, [], .v (.c (.p (.sl (.int .i64)) ret11v.1))), (6, [], .v (.c (.p (.int .i64) ret11v.2))), (16, [], .v (.c (.p .bool ret16v)))], []⟩ : St)) (by kernel_rfl) rfl (by kernel_rfl) rfl rfl Try.call16 (by kernel_rfl) (fun ret16v => by kernel_rfl) (fun _ _ => rfl) (fun hg => link16 [w] _ h) (fun hg => noF hg) (fun ret16v h => ?_)
  have h : ((ret16v = true → K (!decide (ret11v.2 = (0 : Int)))) ∧ (ret16v = false → ((((!decide (ret11v.2 = (0 : Int))) || (!decide ((ret11v.1.length : Int) = (w.length : Int)))) = true → K false) ∧ (((!decide (ret11v.2 = (0 : Int))) || (!decide ((ret11v.1.length : Int) = (w.length : Int)))) = false → VC15 w p (fun (ret31v : Bool × Int) => ((((decide (p < (1 : Int))) || (decide ((w.length : Int) ≤ p))) = true → ((((decide (ret31v.2 = (0 : Int))) && (ret31v.1 == ((decide (p = (w.length : Int))) && (decide ((0 : Int) < p))))) = true → ((decide ((w.length : Int) = (0 : Int))) = false → inIdx (0 : Int) ret11v.1.length)) ∧ K (((decide (ret31v.2 = (0 : Int))) && (ret31v.1 == ((decide (p = (w.length : Int))) && (decide ((0 : Int) < p))))) && ((decide ((w.length : Int) = (0 : Int))) || (decide ((ret11v.1.getD ((0 : Int)).toNat (0 : Int)) = (w.length : Int))))))) ∧ (((decide (p < (1 : Int))) || (decide ((w.length : Int) ≤ p))) = false → (((decide (ret31v.2 = (0 : Int))) = true → inIdx p ret11v.1.length) ∧ ((decide (ret31v.2 = (0 : Int))) = true → InR ((w.length : Int) - p)) ∧ K ((decide (ret31v.2 = (0 : Int))) && (ret31v.1 == (decide ((ret11v.1.getD (p).toNat (0 : Int)) = ((w.length : Int) - p))))))))))))) := h
  refine awl_nil ?_
  refine thenQ_n ?_
  refine aw_cond (b := ret16v) (by kernel_rfl) (fun hb => ?_) (fun hb => ?_)
  · have h := h.1 hb
    refine aw_seq ?_
    refine aw_region ?_
    refine awl_runp 3 [4] [] (ob := (True ∧ True ∧ True ∧ True)) (st' := (⟨84, [(4, [], .v (.c (.p .bool (!decide (ret11v.2 = (0 : Int))))))], []⟩ : St)) (by kernel_rfl) ⟨trivial, trivial, trivial, trivial⟩ ?_
    refine awl_nil ?_
    refine thenQ_n ?_
    refine aw_ret ?_
    refine thenQ_r ?_
    exact retQ_r (σ := Bool) (R := (fun y => [toV1 .bool y])) (!decide (ret11v.2 = (0 : Int))) (by kernel_rfl) h
  · have h := h.2 hb
    refine aw_skip ?_
    refine thenQ_n ?_
    refine aw_seq ?_
    refine aw_seq ?_
    refine aw_region ?_
    refine awl_runp 9 [0, 1, 5, 27] [] (ob := (True ∧ True ∧ True ∧ ((!decide (ret11v.2 = (0 : Int))) = false → True) ∧ ((!decide (ret11v.2 = (0 : Int))) = false → True) ∧ ((!decide (ret11v.2 = (0 : Int))) = false → True) ∧ ((!decide (ret11v.2 = (0 : Int))) = false → True) ∧ ((!decide (ret11v.2 = (0 : Int))) = false → True) ∧ True ∧ True)) (st' := (⟨84, [(0, [], .v (.c (.p (.sl (.int .u8)) w))), (1, [], .v (.c (.p (.int .i64) p))), (5, [], .v (.c (.p (.sl (.int .i64)) ret11v.1))), (27, [], .v (.c (.p .bool ((!decide (ret11v.2 = (0 : Int))) || (!decide ((ret11v.1.length : Int) = (w.length : Int)))))))], []⟩ : St)) (by kernel_rfl) ⟨trivial, trivial, trivial, (fun _ => trivial), (fun _ => trivial), (fun _ => trivial), (fun _ => trivial), (fun _ => trivial), trivial, trivial⟩ ?_
    refine awl_nil ?_
    refine thenQ_n ?_
    refine aw_cond (b := ((!decide (ret11v.2 = (0 : Int))) || (!decide ((ret11v.1.length : Int) = (w.length : Int))))) (by kernel_rfl) (fun hb => ?_) (fun hb => ?_)
    · have h := h.1 hb
      refine aw_seq ?_
      refine aw_region ?_
      refine awl_runp 1 [4] [] (ob := (True ∧ True)) (st' := (⟨84, [(4, [], .v (.c (.p .bool false)))], []⟩ : St)) (by kernel_rfl) ⟨trivial, trivial⟩ ?_
      refine awl_nil ?_
      refine thenQ_n ?_
      refine aw_ret ?_
      refine thenQ_r ?_
      exact retQ_r (σ := Bool) (R := (fun y => [toV1 .bool y])) false (by kernel_rfl) h
    · have h := h.2 hb
      refine aw_skip ?_
      refine thenQ_n ?_
      refine aw_seq ?_
      refine aw_region ?_
      refine awl_runp 2 [0, 1, 5, 29, 30] [] (ob := (True ∧ True ∧ True)) (st' := (⟨84, [(0, [], .v (.c (.p (.sl (.int .u8)) w))), (1, [], .v (.c (.p (.int .i64) p))), (5, [], .v (.c (.p (.sl (.int .i64)) ret11v.1))), (29, [], .v (.c (.p (.sl (.int .u8)) w))), (30, [], .v (.c (.p (.int .i64) p)))], []⟩ : St)) (by kernel_rfl) ⟨trivial, trivial, trivial⟩ ?_
      refine awl_callk (p := []) (l := [toV1 (.sl (.int .u8)) w, toV1 (.int .i64) p]) false [(.sl (.int .u8)), (.int .i64)] [0, 1, 5, 31] [] (fun (ret31v : Bool × Int) => ((((decide (p < (1 : Int))) || (decide ((w.length : Int) ≤ p))) = true → ((((decide (ret31v.2 = (0 : Int))) && (ret31v.1 == ((decide (p = (w.length : Int))) && (decide ((0 : Int) < p))))) = true → ((decide ((w.length : Int) = (0 : Int))) = false → inIdx (0 : Int) ret11v.1.length)) ∧ K (((decide (ret31v.2 = (0 : Int))) && (ret31v.1 == ((decide (p = (w.length : Int))) && (decide ((0 : Int) < p))))) && ((decide ((w.length : Int) = (0 : Int))) || (decide ((ret11v.1.getD ((0 : Int)).toNat (0 : Int)) = (w.length : Int))))))) ∧ (((decide (p < (1 : Int))) || (decide ((w.length : Int) ≤ p))) = false → (((decide (ret31v.2 = (0 : Int))) = true → inIdx p ret11v.1.length) ∧ ((decide (ret31v.2 = (0 : Int))) = true → InR ((w.length : Int) - p)) ∧ K ((decide (ret31v.2 = (0 : Int))) && (ret31v.1 == (decide ((ret11v.1.getD (p).toNat (0 : Int)) = ((w.length : Int) - p))))))))) (fun ret31v => [toV1 .bool ret31v.1, toV1 (.int .i64) ret31v.2]) (fun ret31v => (⟨84, [(0, [], .v (.c (.p (.sl (.int .u8)) w))), (1, [], .v (.c (.p (.int .i64) p))), (5, [], .v (.c (.p (.sl (.int .i64)) ret11v.1))), (31, [], .tup [.c (.p .bool ret31v.1), .c (.p (.int .i64) ret31v.2)])], []⟩ : St)) (by kernel_rfl) rfl (by kernel_rfl) rfl rfl Try.call15 (by kernel_rfl) (fun ret31v => by kernel_rfl) (fun e => by cases e) (fun hg => link15 w p _ h) (fun hg => noF hg) (fun ret31v h => ?_)
      have h : ((((decide (p < (1 : Int))) || (decide ((w.length : Int) ≤ p))) = true → ((((decide (ret31v.2 = (0 : Int))) && (ret31v.1 == ((decide (p = (w.length : Int))) && (decide ((0 : Int) < p))))) = true → ((decide ((w.length : Int) = (0 : Int))) = false → inIdx (0 : Int) ret11v.1.length)) ∧ K (((decide (ret31v.2 = (0 : Int))) && (ret31v.1 == ((decide (p = (w.length : Int))) && (decide ((0 : Int) < p))))) && ((decide ((w.length : Int) = (0 : Int))) || (decide ((ret11v.1.getD ((0 : Int)).toNat (0 : Int)) = (w.length : Int))))))) ∧ (((decide (p < (1 : Int))) || (decide ((w.length : Int) ≤ p))) = false → (((decide (ret31v.2 = (0 : Int))) = true → inIdx p ret11v.1.length) ∧ ((decide (ret31v.2 = (0 : Int))) = true → InR ((w.length : Int) - p)) ∧ K ((decide (ret31v.2 = (0 : Int))) && (ret31v.1 == (decide ((ret11v.1.getD (p).toNat (0 : Int)) = ((w.length : Int) - p)))))))) := h
      refine awl_runp 5 [0, 1, 5, 7, 8] [] (ob := (True ∧ True ∧ True ∧ True ∧ True ∧ True)) (st' := (⟨84, [(0, [], .v (.c (.p (.sl (.int .u8)) w))), (1, [], .v (.c (.p (.int .i64) p))), (5, [], .v (.c (.p (.sl (.int .i64)) ret11v.1))), (7, [], .v (.c (.p .bool ret31v.1))), (8, [], .v (.c (.p (.int .i64) ret31v.2)))], []⟩ : St)) (by kernel_rfl) ⟨trivial, trivial, trivial, trivial, trivial, trivial⟩ ?_
      refine awl_nil ?_
      refine thenQ_n ?_
      refine aw_seq ?_
      refine aw_seq ?_
      refine aw_region ?_
      refine awl_runp 8 [0, 1, 5, 7, 8, 41] [] (ob := (True ∧ True ∧ True ∧ ((decide (p < (1 : Int))) = false → True) ∧ ((decide (p < (1 : Int))) = false → True) ∧ ((decide (p < (1 : Int))) = false → True) ∧ ((decide (p < (1 : Int))) = false → True) ∧ True ∧ True)) (st' := (⟨84, [(0, [], .v (.c (.p (.sl (.int .u8)) w))), (1, [], .v (.c (.p (.int .i64) p))), (5, [], .v (.c (.p (.sl (.int .i64)) ret11v.1))), (7, [], .v (.c (.p .bool ret31v.1))), (8, [], .v (.c (.p (.int .i64) ret31v.2))), (41, [], .v (.c (.p .bool ((decide (p < (1 : Int))) || (decide ((w.length : Int) ≤ p))))))], []⟩ : St)) (by kernel_rfl) ⟨trivial, trivial, trivial, (fun _ => trivial), (fun _ => trivial), (fun _ => trivial), (fun _ => trivial), trivial, trivial⟩ ?_
      refine awl_nil ?_
      refine thenQ_n ?_
      refine aw_cond (b := ((decide (p < (1 : Int))) || (decide ((w.length : Int) ≤ p)))) (by kernel_rfl) (fun hb => ?_) (fun hb => ?_)
      · have h := h.1 hb
        refine aw_seq ?_
        refine aw_region ?_
        obtain ⟨o1, h⟩ := h
        refine awl_runp 28 [4] [] (ob := (True ∧ True ∧ True ∧ ((decide (ret31v.2 = (0 : Int))) = true → True) ∧ ((decide (ret31v.2 = (0 : Int))) = true → True) ∧ ((decide (ret31v.2 = (0 : Int))) = true → True) ∧ ((decide (ret31v.2 = (0 : Int))) = true → True) ∧ ((decide (ret31v.2 = (0 : Int))) = true → True) ∧ ((decide (ret31v.2 = (0 : Int))) = true → True) ∧ ((decide (ret31v.2 = (0 : Int))) = true → ((decide (p = (w.length : Int))) = true → True)) ∧ ((decide (ret31v.2 = (0 : Int))) = true → ((decide (p = (w.length : Int))) = true → True)) ∧ ((decide (ret31v.2 = (0 : Int))) = true → True) ∧ ((decide (ret31v.2 = (0 : Int))) = true → True) ∧ True ∧ True ∧ (((decide (ret31v.2 = (0 : Int))) && (ret31v.1 == ((decide (p = (w.length : Int))) && (decide ((0 : Int) < p))))) = true → True) ∧ (((decide (ret31v.2 = (0 : Int))) && (ret31v.1 == ((decide (p = (w.length : Int))) && (decide ((0 : Int) < p))))) = true → True) ∧ (((decide (ret31v.2 = (0 : Int))) && (ret31v.1 == ((decide (p = (w.length : Int))) && (decide ((0 : Int) < p))))) = true → True) ∧ (((decide (ret31v.2 = (0 : Int))) && (ret31v.1 == ((decide (p = (w.length : Int))) && (decide ((0 : Int) < p))))) = true → True) ∧ (((decide (ret31v.2 = (0 : Int))) && (ret31v.1 == ((decide (p = (w.length : Int))) && (decide ((0 : Int) < p))))) = true → ((decide ((w.length : Int) = (0 : Int))) = false → True)) ∧ (((decide (ret31v.2 = (0 : Int))) && (ret31v.1 == ((decide (p = (w.length : Int))) && (decide ((0 : Int) < p))))) = true → ((decide ((w.length : Int) = (0 : Int))) = false → inIdx (0 : Int) ret11v.1.length)) ∧ (((decide (ret31v.2 = (0 : Int))) && (ret31v.1 == ((decide (p = (w.length : Int))) && (decide ((0 : Int) < p))))) = true → ((decide ((w.length : Int) = (0 : Int))) = false → True)) ∧ (((decide (ret31v.2 = (0 : Int))) && (ret31v.1 == ((decide (p = (w.length : Int))) && (decide ((0 : Int) < p))))) = true → ((decide ((w.length : Int) = (0 : Int))) = false → True)) ∧ (((decide (ret31v.2 = (0 : Int))) && (ret31v.1 == ((decide (p = (w.length : Int))) && (decide ((0 : Int) < p))))) = true → ((decide ((w.length : Int) = (0 : Int))) = false → True)) ∧ (((decide (ret31v.2 = (0 : Int))) && (ret31v.1 == ((decide (p = (w.length : Int))) && (decide ((0 : Int) < p))))) = true → ((decide ((w.length : Int) = (0 : Int))) = false → True)) ∧ (((decide (ret31v.2 = (0 : Int))) && (ret31v.1 == ((decide (p = (w.length : Int))) && (decide ((0 : Int) < p))))) = true → True) ∧ True ∧ True ∧ True)) (st' := (⟨84, [(4, [], .v (.c (.p .bool (((decide (ret31v.2 = (0 : Int))) && (ret31v.1 == ((decide (p = (w.length : Int))) && (decide ((0 : Int) < p))))) && ((decide ((w.length : Int) = (0 : Int))) || (decide ((ret11v.1.getD ((0 : Int)).toNat (0 : Int)) = (w.length : Int))))))))], []⟩ : St)) (by kernel_rfl) ⟨trivial, trivial, trivial, (fun _ => trivial), (fun _ => trivial), (fun _ => trivial), (fun _ => trivial), (fun _ => trivial), (fun _ => trivial), (fun _ _ => trivial), (fun _ _ => trivial), (fun _ => trivial), (fun _ => trivial), trivial, trivial, (fun _ => trivial), (fun _ => trivial), (fun _ => trivial), (fun _ => trivial), (fun _ _ => trivial), o1, (fun _ _ => trivial), (fun _ _ => trivial), (fun _ _ => trivial), (fun _ _ => trivial), (fun _ => trivial), trivial, trivial, trivial⟩ ?_
        refine awl_nil ?_
        refine thenQ_n ?_
        refine aw_ret ?_
        refine thenQ_r ?_
        exact retQ_r (σ := Bool) (R := (fun y => [toV1 .bool y])) (((decide (ret31v.2 = (0 : Int))) && (ret31v.1 == ((decide (p = (w.length : Int))) && (decide ((0 : Int) < p))))) && ((decide ((w.length : Int) = (0 : Int))) || (decide ((ret11v.1.getD ((0 : Int)).toNat (0 : Int)) = (w.length : Int))))) (by kernel_rfl) h
      · have h := h.2 hb
        refine aw_skip ?_
        refine thenQ_n ?_
        refine aw_seq ?_
        refine aw_region ?_
        obtain ⟨o1, o2, h⟩ := h
        refine awl_runp 16 [4] [] (ob := (True ∧ True ∧ True ∧ ((decide (ret31v.2 = (0 : Int))) = true → True) ∧ ((decide (ret31v.2 = (0 : Int))) = true → True) ∧ ((decide (ret31v.2 = (0 : Int))) = true → True) ∧ ((decide (ret31v.2 = (0 : Int))) = true → inIdx p ret11v.1.length) ∧ ((decide (ret31v.2 = (0 : Int))) = true → True) ∧ ((decide (ret31v.2 = (0 : Int))) = true → True) ∧ ((decide (ret31v.2 = (0 : Int))) = true → True) ∧ ((decide (ret31v.2 = (0 : Int))) = true → True) ∧ ((decide (ret31v.2 = (0 : Int))) = true → InR ((w.length : Int) - p)) ∧ ((decide (ret31v.2 = (0 : Int))) = true → True) ∧ ((decide (ret31v.2 = (0 : Int))) = true → True) ∧ True ∧ True ∧ True)) (st' := (⟨84, [(4, [], .v (.c (.p .bool ((decide (ret31v.2 = (0 : Int))) && (ret31v.1 == (decide ((ret11v.1.getD (p).toNat (0 : Int)) = ((w.length : Int) - p))))))))], []⟩ : St)) (by kernel_rfl) ⟨trivial, trivial, trivial, (fun _ => trivial), (fun _ => trivial), (fun _ => trivial), o1, (fun _ => trivial), (fun _ => trivial), (fun _ => trivial), (fun _ => trivial), o2, (fun _ => trivial), (fun _ => trivial), trivial, trivial, trivial⟩ ?_
        refine awl_nil ?_
        refine thenQ_n ?_
        refine aw_ret ?_
        exact retQ_r (σ := Bool) (R := (fun y => [toV1 .bool y])) ((decide (ret31v.2 = (0 : Int))) && (ret31v.1 == (decide ((ret11v.1.getD (p).toNat (0 : Int)) = ((w.length : Int) - p))))) (by kernel_rfl) h

end Dec
