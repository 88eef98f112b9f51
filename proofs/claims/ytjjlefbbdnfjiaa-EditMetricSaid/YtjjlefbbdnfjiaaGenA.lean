/-
  Printed by dec.py: of each function its plain demand, and that the demand gives the contract.
-/
import Derived.Test.YtjjlefbbdnfjiaaChecked
import Derived.Test.YtjjlefbbdnfjiaaDecQ
set_option linter.unusedVariables false
set_option linter.unusedSimpArgs false
set_option maxRecDepth 100000
namespace Dec
open Go Go.RowKit Go.Proofs

def VC40 (a b : List Int) (K : Bool → Prop) : Prop := K (decide (a = b))

theorem link40 (a b : List Int) (K : Bool → Prop) (h : VC40 a b K) : ACalls Try.prog 40 [toV1 (.sl (.int .u8)) a, toV1 (.sl (.int .u8)) b] (fun res => ∃ y, res = (fun y => [toV1 .bool y]) y ∧ K y) := by
  refine acalls_of_aw [.bool] [4] Try.func40 rfl rfl rfl ?_
  refine aw_seq ?_
  refine aw_region ?_
  refine awl_runp 1 [0, 1] [] (ob := (True ∧ True)) (st' := (⟨10, [(0, [], .v (.c (.p (.sl (.int .u8)) a))), (1, [], .v (.c (.p (.sl (.int .u8)) b)))], []⟩ : St)) (by kernel_rfl) ⟨trivial, trivial⟩ ?_
  refine awl_nil ?_
  refine thenQ_n ?_
  refine aw_seq ?_
  refine aw_region ?_
  intro w0 S0 G a0 w hs
  have ha : Enc w G.S (.sl (.int .u8)) a [a0.eval (.tmp 0)] := hs.val_ (p := []) (x := .tmp 0) holds_nil rfl
  have hb : Enc w G.S (.sl (.int .u8)) b [a0.eval (.tmp 1)] := hs.val_ (p := []) (x := .tmp 1) holds_nil rfl
  have hsz : a0.tmps.size = 10 := hs.size
  have e1 := enc_string (P := Try.prog) ha Try.underlying22 Try.underlying5 Try.underlying9
  have e2 := enc_string (P := Try.prog) hb Try.underlying22 Try.underlying5 Try.underlying9
  refine wpl_val (a0.eval (.tmp 0)) rfl rfl (by rfl) ?_
  refine wpl_val (.string (strOfNums a)) (d := 6) rfl rfl ?_ ?_
  · unfold execOp
    simp only []
    rw [eval_hit (by simp [hsz])]
    simp only [Sem.run_bind, Sem.run_map, e1, Result.andThen_ok, Sem.run_pure]
  refine wpl_val (a0.eval (.tmp 1)) (d := 7) rfl rfl ?_ ?_
  · unfold execOp
    simp only []
    rw [eval_miss (by decide), eval_miss (by decide)]
    rfl
  refine wpl_val (.string (strOfNums b)) (d := 8) rfl rfl ?_ ?_
  · unfold execOp
    simp only []
    rw [eval_hit (by simp [Act.put, hsz])]
    simp only [Sem.run_bind, Sem.run_map, e2, Result.andThen_ok, Sem.run_pure]
  refine wpl_val (.bool (decide (a = b))) (d := 9) rfl rfl ?_ ?_
  · unfold execOp
    simp only []
    rw [eval_hit (by simp [Act.put, hsz]), eval_miss (by decide), eval_miss (by decide), eval_hit (by simp [Act.put, hsz])]
    simp only [binOp_string_eql, Sem.run_bind, Sem.run_map, Result.andThen_ok, Sem.run_pure, strOfNums_beq (enc_bytes ha) (enc_bytes hb)]
    simp [eqGuard, run_underlying Try.underlying9]
  refine wpl_val (.bool (decide (a = b))) (d := 4) rfl rfl ?_ ?_
  · unfold execOp
    simp only []
    rw [eval_hit (by simp [Act.put, hsz])]
    rfl
  have s1 := hs.put (i := 5) (p := []) (x := .v (.c .any)) (v := a0.eval (.tmp 0)) (show (_ : Nat) < 10 by decide) rfl (fun _ => trivial) (fun hn => absurd holds_nil hn)
  have s2 := s1.put (i := 6) (p := []) (x := .v (.c .any)) (v := .string (strOfNums a)) (show (_ : Nat) < 10 by decide) rfl (fun _ => trivial) (fun hn => absurd holds_nil hn)
  have s3 := s2.put (i := 7) (p := []) (x := .v (.c .any)) (v := a0.eval (.tmp 1)) (show (_ : Nat) < 10 by decide) rfl (fun _ => trivial) (fun hn => absurd holds_nil hn)
  have s4 := s3.put (i := 8) (p := []) (x := .v (.c .any)) (v := .string (strOfNums b)) (show (_ : Nat) < 10 by decide) rfl (fun _ => trivial) (fun hn => absurd holds_nil hn)
  have s5 := s4.put (i := 9) (p := []) (x := .v (.c .any)) (v := .bool (decide (a = b))) (show (_ : Nat) < 10 by decide) rfl (fun _ => trivial) (fun hn => absurd holds_nil hn)
  have s6 := s5.put (i := 4) (p := []) (x := .v (.c (.p .bool (decide (a = b))))) (v := .bool (decide (a = b))) (show (_ : Nat) < 10 by decide) rfl (fun _ => rfl) (fun hn => absurd holds_nil hn)
  refine ⟨G, _, s6, thenQ_n (aw_ret ?_)⟩
  exact retQ_r (σ := Bool) (R := (fun y => [toV1 .bool y])) (decide (a = b)) (by rfl) h

-- coppicer/power.Large
def VC38_k1 (K : Int → Prop) : Prop :=
  K (0 : Int)

def VC38_l1 (words : (List (List Int))) (K : Int → Prop) (v7 : Int) (X1 : Int → Prop) : Prop :=
  (((decide (v7 < (words.length : Int))) = true → (inIdx v7 words.length ∧ (((decide ((60 : Int) < ((words.getD (v7).toNat ([] : (List Int))).length : Int))) = true → K (1 : Int)) ∧ ((decide ((60 : Int) < ((words.getD (v7).toNat ([] : (List Int))).length : Int))) = false → (InR (v7 + (1 : Int)) ∧ X1 (v7 + (1 : Int))))))) ∧ ((decide (v7 < (words.length : Int))) = false → VC38_k1 K))

def VC38 (words : (List (List Int))) (K : Int → Prop) : Prop :=
  Loop (σ := Int) (fun s X => VC38_l1 words K s X) (0 : Int)

set_option maxHeartbeats 4000000 in
theorem link38 (words : (List (List Int))) (K : Int → Prop) (h : VC38 words K) : ACalls Try.prog 38 [toV1 (.sl (.sl (.int .u8))) words] (fun res => ∃ y, res = (fun y => [toV1 (.int .i64) y]) y ∧ K y) := by
  refine acalls_of_aw [(.int .i64)] [2] Try.func38 rfl rfl rfl ?_
  unfold VC38 at h
  refine aw_seq ?_
  refine aw_region ?_
  refine awl_runp 1 [0] [] (ob := (True ∧ True)) (st' := (⟨15, [(0, [], .v (.c (.p (.sl (.sl (.int .u8))) words)))], []⟩ : St)) (by kernel_rfl) ⟨trivial, trivial⟩ ?_
  refine awl_nil ?_
  refine thenQ_n ?_
  refine aw_seq ?_
  refine aw_seq ?_
  refine aw_region ?_
  refine awl_runp 3 [5, 6, 7] [] (ob := (True ∧ True ∧ True ∧ True)) (st' := (⟨15, [(5, [], .v (.c (.p (.sl (.sl (.int .u8))) words))), (6, [], .v (.c (.p (.int .i64) (words.length : Int)))), (7, [], .v (.c (.p (.int .i64) (0 : Int))))], []⟩ : St)) (by kernel_rfl) ⟨trivial, trivial, trivial, trivial⟩ ?_
  refine awl_nil ?_
  refine thenQ_n ?_
  refine withJoin (σ := Unit) (fun s => (⟨15, [], []⟩ : St)) (fun s => VC38_k1 K) (fun s h => ?_) (fun rest1 => ?_)
  · have h : VC38_k1 K := h
    unfold VC38_k1 at h
    refine thenQ_n ?_
    refine aw_seq ?_
    refine aw_region ?_
    refine awl_runp 1 [2] [] (ob := (True ∧ True)) (st' := (⟨15, [(2, [], .v (.c (.p (.int .i64) (0 : Int))))], []⟩ : St)) (by kernel_rfl) ⟨trivial, trivial⟩ ?_
    refine awl_nil ?_
    refine thenQ_n ?_
    refine aw_ret ?_
    exact retQ_r (σ := Int) (R := (fun y => [toV1 (.int .i64) y])) (0 : Int) (by kernel_rfl) h
  · refine aw_block ?_
    refine aw_loop (σ := Int) (fun s => (⟨15, [(5, [], .v (.c (.p (.sl (.sl (.int .u8))) words))), (6, [], .v (.c (.p (.int .i64) (words.length : Int)))), (7, [], .v (.c (.p (.int .i64) s)))], []⟩ : St)) (fun s X => VC38_l1 words K s X) (s0 := (0 : Int)) (fun v7 X1 h => ?_) h
    have h : VC38_l1 words K v7 X1 := h
    unfold VC38_l1 at h
    refine aw_seq ?_
    refine aw_region ?_
    refine awl_runp 1 [5, 6, 7, 8] [] (ob := (True ∧ True)) (st' := (⟨15, [(5, [], .v (.c (.p (.sl (.sl (.int .u8))) words))), (6, [], .v (.c (.p (.int .i64) (words.length : Int)))), (7, [], .v (.c (.p (.int .i64) v7))), (8, [], .v (.c (.p .bool (decide (v7 < (words.length : Int))))))], []⟩ : St)) (by kernel_rfl) ⟨trivial, trivial⟩ ?_
    refine awl_nil ?_
    refine thenQ_n ?_
    refine aw_seq ?_
    refine aw_cond (b := (decide (v7 < (words.length : Int)))) (by kernel_rfl) (fun hb => ?_) (fun hb => ?_)
    · have h := h.1 hb
      refine aw_skip ?_
      refine thenQ_n ?_
      refine aw_seq ?_
      refine aw_block ?_
      refine aw_seq ?_
      refine aw_region ?_
      obtain ⟨o1, h⟩ := h
      refine awl_runp 3 [4, 5, 6, 7] [] (ob := (inIdx v7 words.length ∧ True ∧ True ∧ True)) (st' := (⟨15, [(4, [], .v (.c (.p (.sl (.int .u8)) (words.getD (v7).toNat ([] : (List Int)))))), (5, [], .v (.c (.p (.sl (.sl (.int .u8))) words))), (6, [], .v (.c (.p (.int .i64) (words.length : Int)))), (7, [], .v (.c (.p (.int .i64) v7)))], []⟩ : St)) (by kernel_rfl) ⟨o1, trivial, trivial, trivial⟩ ?_
      refine awl_nil ?_
      refine thenQ_n ?_
      refine aw_seq ?_
      refine aw_region ?_
      refine awl_runp 3 [5, 6, 7, 13] [] (ob := (True ∧ True ∧ True ∧ True)) (st' := (⟨15, [(5, [], .v (.c (.p (.sl (.sl (.int .u8))) words))), (6, [], .v (.c (.p (.int .i64) (words.length : Int)))), (7, [], .v (.c (.p (.int .i64) v7))), (13, [], .v (.c (.p .bool (decide ((60 : Int) < ((words.getD (v7).toNat ([] : (List Int))).length : Int))))))], []⟩ : St)) (by kernel_rfl) ⟨trivial, trivial, trivial, trivial⟩ ?_
      refine awl_nil ?_
      refine thenQ_n ?_
      refine aw_cond (b := (decide ((60 : Int) < ((words.getD (v7).toNat ([] : (List Int))).length : Int)))) (by kernel_rfl) (fun hb => ?_) (fun hb => ?_)
      · have h := h.1 hb
        refine aw_seq ?_
        refine aw_region ?_
        refine awl_runp 1 [2] [] (ob := (True ∧ True)) (st' := (⟨15, [(2, [], .v (.c (.p (.int .i64) (1 : Int))))], []⟩ : St)) (by kernel_rfl) ⟨trivial, trivial⟩ ?_
        refine awl_nil ?_
        refine thenQ_n ?_
        refine aw_ret ?_
        refine blockQ_r ?_
        refine thenQ_r ?_
        refine thenQ_r ?_
        refine blockQ_r ?_
        refine thenQ_r ?_
        exact retQ_r (σ := Int) (R := (fun y => [toV1 (.int .i64) y])) (1 : Int) (by kernel_rfl) h
      · have h := h.2 hb
        refine aw_skip ?_
        refine blockQ_n ?_
        refine thenQ_n ?_
        refine aw_region ?_
        obtain ⟨o1, h⟩ := h
        refine awl_runp 2 [5, 6, 7] [] (ob := (InR (v7 + (1 : Int)) ∧ True ∧ True)) (st' := (⟨15, [(5, [], .v (.c (.p (.sl (.sl (.int .u8))) words))), (6, [], .v (.c (.p (.int .i64) (words.length : Int)))), (7, [], .v (.c (.p (.int .i64) (v7 + (1 : Int)))))], []⟩ : St)) (by kernel_rfl) ⟨o1, trivial, trivial⟩ ?_
        refine awl_nil ?_
        exact thenQ_n ⟨(v7 + (1 : Int)), rfl, h⟩
    · have h := h.2 hb
      refine aw_conv [.prune [] []] (st' := (⟨15, [], []⟩ : St)) (by kernel_rfl) ?_
      refine aw_exit ?_
      refine thenQ_x ?_
      refine thenQ_x ?_
      refine blockQ_hit ?_
      exact rest1 () h

-- coppicer/power.period
def VC39 (w : (List Int)) (p : Int) (K : Bool → Prop) : Prop :=
  ((((decide ((1 : Int) ≤ p)) && (decide (p ≤ (w.length : Int)))) = true → (0 ≤ p ∧ p ≤ (w.length : Int))) ∧ (((decide ((1 : Int) ≤ p)) && (decide (p ≤ (w.length : Int)))) = true → InR ((w.length : Int) - p)) ∧ (((decide ((1 : Int) ≤ p)) && (decide (p ≤ (w.length : Int)))) = true → (0 ≤ ((w.length : Int) - p) ∧ ((w.length : Int) - p) ≤ (w.length : Int))) ∧ gcall (α := Bool) ((decide ((1 : Int) ≤ p)) && (decide (p ≤ (w.length : Int)))) (VC40 (w.drop (p).toNat) (w.take (((w.length : Int) - p)).toNat)) false (fun (ret23v : Bool) => K (((decide ((1 : Int) ≤ p)) && (decide (p ≤ (w.length : Int)))) && ret23v)))

set_option maxHeartbeats 4000000 in
theorem link39 (w : (List Int)) (p : Int) (K : Bool → Prop) (h : VC39 w p K) : ACalls Try.prog 39 [toV1 (.sl (.int .u8)) w, toV1 (.int .i64) p] (fun res => ∃ y, res = (fun y => [toV1 .bool y]) y ∧ K y) := by
  refine acalls_of_aw [.bool] [4] Try.func39 rfl rfl rfl ?_
  unfold VC39 at h
  refine aw_seq ?_
  refine aw_region ?_
  refine awl_runp 1 [0, 1] [] (ob := (True ∧ True)) (st' := (⟨25, [(0, [], .v (.c (.p (.sl (.int .u8)) w))), (1, [], .v (.c (.p (.int .i64) p)))], []⟩ : St)) (by kernel_rfl) ⟨trivial, trivial⟩ ?_
  refine awl_nil ?_
  refine thenQ_n ?_
  refine aw_seq ?_
  refine awd_begin (by kernel_rfl) ?_
  obtain ⟨o1, o2, o3, h⟩ := h
  refine awd_runp (by kernel_rfl) [0, 1, 2, 3, 4, 5, 6, 7, 8, 9, 10, 11, 12, 13, 14, 15, 16, 17] [13, 16, 22] [] (ob := (True ∧ True ∧ True ∧ ((decide ((1 : Int) ≤ p)) = true → True) ∧ ((decide ((1 : Int) ≤ p)) = true → True) ∧ ((decide ((1 : Int) ≤ p)) = true → True) ∧ ((decide ((1 : Int) ≤ p)) = true → True) ∧ True ∧ True ∧ (((decide ((1 : Int) ≤ p)) && (decide (p ≤ (w.length : Int)))) = true → True) ∧ (((decide ((1 : Int) ≤ p)) && (decide (p ≤ (w.length : Int)))) = true → True) ∧ (((decide ((1 : Int) ≤ p)) && (decide (p ≤ (w.length : Int)))) = true → (0 ≤ p ∧ p ≤ (w.length : Int))) ∧ (((decide ((1 : Int) ≤ p)) && (decide (p ≤ (w.length : Int)))) = true → True) ∧ (((decide ((1 : Int) ≤ p)) && (decide (p ≤ (w.length : Int)))) = true → True) ∧ (((decide ((1 : Int) ≤ p)) && (decide (p ≤ (w.length : Int)))) = true → True) ∧ (((decide ((1 : Int) ≤ p)) && (decide (p ≤ (w.length : Int)))) = true → True) ∧ (((decide ((1 : Int) ≤ p)) && (decide (p ≤ (w.length : Int)))) = true → InR ((w.length : Int) - p)) ∧ (((decide ((1 : Int) ≤ p)) && (decide (p ≤ (w.length : Int)))) = true → (0 ≤ ((w.length : Int) - p) ∧ ((w.length : Int) - p) ≤ (w.length : Int))) ∧ True)) (done' := [17, 16, 15, 14, 13, 12, 11, 10, 9, 8, 7, 6, 5, 4, 3, 2, 1, 0]) (st' := (⟨25, [(13, [], .v (.c (.p .bool ((decide ((1 : Int) ≤ p)) && (decide (p ≤ (w.length : Int))))))), (16, [(13, true)], .v (.c (.p (.sl (.int .u8)) (w.drop (p).toNat)))), (22, [(13, true)], .v (.c (.p (.sl (.int .u8)) (w.take (((w.length : Int) - p)).toNat))))], []⟩ : St)) (by kernel_rfl) ⟨trivial, trivial, trivial, (fun _ => trivial), (fun _ => trivial), (fun _ => trivial), (fun _ => trivial), trivial, trivial, (fun _ => trivial), (fun _ => trivial), o1, (fun _ => trivial), (fun _ => trivial), (fun _ => trivial), (fun _ => trivial), o2, o3, trivial⟩ ?_
  refine awd_callk (p := [(13, true)]) (l := [toV1 (.sl (.int .u8)) (w.drop (p).toNat), toV1 (.sl (.int .u8)) (w.take (((w.length : Int) - p)).toNat)]) false [(.sl (.int .u8)), (.sl (.int .u8))] [13, 23] [] (fun (ret23v : Bool) => K (((decide ((1 : Int) ≤ p)) && (decide (p ≤ (w.length : Int)))) && ret23v)) (fun ret23v => [toV1 .bool ret23v]) (fun ret23v => (⟨25, [(13, [], .v (.c (.p .bool ((decide ((1 : Int) ≤ p)) && (decide (p ≤ (w.length : Int))))))), (23, [(13, true)], .v (.c (.p .bool ret23v)))], []⟩ : St)) (i := 18) (by kernel_rfl) rfl (by kernel_rfl) rfl (by kernel_rfl) rfl rfl Try.call40 (by kernel_rfl) (fun ret23v => by kernel_rfl) (fun e => by cases e) (fun hg => link40 (w.drop (p).toNat) (w.take (((w.length : Int) - p)).toNat) _ (by have := gcall_T h (show ((decide ((1 : Int) ≤ p)) && (decide (p ≤ (w.length : Int)))) = true from hg); exact this)) (fun hg => ⟨false, by have := gcall_F h (show ((decide ((1 : Int) ≤ p)) && (decide (p ≤ (w.length : Int)))) = false from hg); exact this⟩) (fun ret23v h => ?_)
  have h : K (((decide ((1 : Int) ≤ p)) && (decide (p ≤ (w.length : Int)))) && ret23v) := h
  refine awd_runp (by kernel_rfl) [19, 20] [4] [] (ob := (True ∧ True ∧ True)) (done' := [20, 19, 18, 17, 16, 15, 14, 13, 12, 11, 10, 9, 8, 7, 6, 5, 4, 3, 2, 1, 0]) (st' := (⟨25, [(4, [], .v (.c (.p .bool (((decide ((1 : Int) ≤ p)) && (decide (p ≤ (w.length : Int)))) && ret23v))))], []⟩ : St)) (by kernel_rfl) ⟨trivial, trivial, trivial⟩ ?_
  refine awd_done (by kernel_rfl) ?_
  refine thenQ_n ?_
  refine aw_ret ?_
  exact retQ_r (σ := Bool) (R := (fun y => [toV1 .bool y])) (((decide ((1 : Int) ≤ p)) && (decide (p ≤ (w.length : Int)))) && ret23v) (by kernel_rfl) h

-- coppicer/power.Period
def VC15 (w : (List Int)) (p : Int) (K : Bool × Int → Prop) : Prop :=
  VC38 [w] (fun (ret9v : Int) => (((!decide (ret9v = (0 : Int))) = true → K (false, ret9v)) ∧ ((!decide (ret9v = (0 : Int))) = false → VC39 w p (fun (ret15v : Bool) => K (ret15v, (0 : Int))))))

set_option maxHeartbeats 4000000 in
theorem link15 (w : (List Int)) (p : Int) (K : Bool × Int → Prop) (h : VC15 w p K) : ACalls Try.prog 15 [toV1 (.sl (.int .u8)) w, toV1 (.int .i64) p] (fun res => ∃ y, res = (fun y => [toV1 .bool y.1, toV1 (.int .i64) y.2]) y ∧ K y) := by
  refine acalls_of_aw [.bool, (.int .i64)] [4, 5] Try.func15 rfl rfl rfl ?_
  unfold VC15 at h
  refine aw_seq ?_
  refine aw_region ?_
  refine awl_runp 2 [0, 1] [] (ob := (True ∧ True ∧ True)) (st' := (⟨16, [(0, [], .v (.c (.p (.sl (.int .u8)) w))), (1, [], .v (.c (.p (.int .i64) p)))], []⟩ : St)) (by kernel_rfl) ⟨trivial, trivial, trivial⟩ ?_
  refine awl_nil ?_
  refine thenQ_n ?_
  refine aw_seq ?_
  refine aw_seq ?_
  refine aw_region ?_
  refine awl_runp 2 [0, 1, 8] [8] (ob := (True ∧ True ∧ True)) (st' := (⟨16, [(0, [], .v (.c (.p (.sl (.int .u8)) w))), (1, [], .v (.c (.p (.int .i64) p))), (8, [], .v (.c (.own 8)))], [(8, [], .arr 22 (.sl (.int .u8)) [w])]⟩ : St)) (by kernel_rfl) ⟨trivial, trivial, trivial⟩ ?_
  refine awl_callk (p := []) (l := [toV1 (.sl (.sl (.int .u8))) [w]]) true [(.sl (.sl (.int .u8)))] [0, 1, 9] [] (fun (ret9v : Int) => (((!decide (ret9v = (0 : Int))) = true → K (false, ret9v)) ∧ ((!decide (ret9v = (0 : Int))) = false → VC39 w p (fun (ret15v : Bool) => K (ret15v, (0 : Int)))))) (fun ret9v => [toV1 (.int .i64) ret9v]) (fun ret9v => (⟨16, [(0, [], .v (.c (.p (.sl (.int .u8)) w))), (1, [], .v (.c (.p (.int .i64) p))), (9, [], .v (.c (.p (.int .i64) ret9v)))], []⟩ : St)) (by kernel_rfl) rfl (by kernel_rfl) rfl rfl Try.call38 (by kernel_rfl) (fun ret9v => by kernel_rfl) (fun _ _ => rfl) (fun hg => link38 [w] _ h) (fun hg => noF hg) (fun ret9v h => ?_)
  have h : (((!decide (ret9v = (0 : Int))) = true → K (false, ret9v)) ∧ ((!decide (ret9v = (0 : Int))) = false → VC39 w p (fun (ret15v : Bool) => K (ret15v, (0 : Int))))) := h
  refine awl_runp 1 [0, 1, 6] [] (ob := (True ∧ True)) (st' := (⟨16, [(0, [], .v (.c (.p (.sl (.int .u8)) w))), (1, [], .v (.c (.p (.int .i64) p))), (6, [], .v (.c (.p (.int .i64) ret9v)))], []⟩ : St)) (by kernel_rfl) ⟨trivial, trivial⟩ ?_
  refine awl_nil ?_
  refine thenQ_n ?_
  refine aw_seq ?_
  refine aw_region ?_
  refine awl_runp 2 [0, 1, 6, 11] [] (ob := (True ∧ True ∧ True)) (st' := (⟨16, [(0, [], .v (.c (.p (.sl (.int .u8)) w))), (1, [], .v (.c (.p (.int .i64) p))), (6, [], .v (.c (.p (.int .i64) ret9v))), (11, [], .v (.c (.p .bool (!decide (ret9v = (0 : Int))))))], []⟩ : St)) (by kernel_rfl) ⟨trivial, trivial, trivial⟩ ?_
  refine awl_nil ?_
  refine thenQ_n ?_
  refine aw_cond (b := (!decide (ret9v = (0 : Int)))) (by kernel_rfl) (fun hb => ?_) (fun hb => ?_)
  · have h := h.1 hb
    refine aw_seq ?_
    refine aw_region ?_
    refine awl_runp 3 [4, 5] [] (ob := (True ∧ True ∧ True ∧ True)) (st' := (⟨16, [(4, [], .v (.c (.p .bool false))), (5, [], .v (.c (.p (.int .i64) ret9v)))], []⟩ : St)) (by kernel_rfl) ⟨trivial, trivial, trivial, trivial⟩ ?_
    refine awl_nil ?_
    refine thenQ_n ?_
    refine aw_ret ?_
    refine thenQ_r ?_
    exact retQ_r (σ := Bool × Int) (R := (fun y => [toV1 .bool y.1, toV1 (.int .i64) y.2])) (false, ret9v) (by kernel_rfl) h
  · have h := h.2 hb
    refine aw_skip ?_
    refine thenQ_n ?_
    refine aw_seq ?_
    refine aw_region ?_
    refine awl_runp 2 [13, 14] [] (ob := (True ∧ True ∧ True)) (st' := (⟨16, [(13, [], .v (.c (.p (.sl (.int .u8)) w))), (14, [], .v (.c (.p (.int .i64) p)))], []⟩ : St)) (by kernel_rfl) ⟨trivial, trivial, trivial⟩ ?_
    refine awl_callk (p := []) (l := [toV1 (.sl (.int .u8)) w, toV1 (.int .i64) p]) false [(.sl (.int .u8)), (.int .i64)] [15] [] (fun (ret15v : Bool) => K (ret15v, (0 : Int))) (fun ret15v => [toV1 .bool ret15v]) (fun ret15v => (⟨16, [(15, [], .v (.c (.p .bool ret15v)))], []⟩ : St)) (by kernel_rfl) rfl (by kernel_rfl) rfl rfl Try.call39 (by kernel_rfl) (fun ret15v => by kernel_rfl) (fun e => by cases e) (fun hg => link39 w p _ h) (fun hg => noF hg) (fun ret15v h => ?_)
    have h : K (ret15v, (0 : Int)) := h
    refine awl_runp 2 [4, 5] [] (ob := (True ∧ True ∧ True)) (st' := (⟨16, [(4, [], .v (.c (.p .bool ret15v))), (5, [], .v (.c (.p (.int .i64) (0 : Int))))], []⟩ : St)) (by kernel_rfl) ⟨trivial, trivial, trivial⟩ ?_
    refine awl_nil ?_
    refine thenQ_n ?_
    refine aw_ret ?_
    exact retQ_r (σ := Bool × Int) (R := (fun y => [toV1 .bool y.1, toV1 (.int .i64) y.2])) (ret15v, (0 : Int)) (by kernel_rfl) h

-- coppicer/coppicerkeep.long
def VC16_k1 (K : Bool → Prop) : Prop :=
  K false

def VC16_l1 (words : (List (List Int))) (K : Bool → Prop) (v7 : Int) (X1 : Int → Prop) : Prop :=
  (((decide (v7 < (words.length : Int))) = true → (inIdx v7 words.length ∧ (((decide ((60 : Int) < ((words.getD (v7).toNat ([] : (List Int))).length : Int))) = true → K true) ∧ ((decide ((60 : Int) < ((words.getD (v7).toNat ([] : (List Int))).length : Int))) = false → (InR (v7 + (1 : Int)) ∧ X1 (v7 + (1 : Int))))))) ∧ ((decide (v7 < (words.length : Int))) = false → VC16_k1 K))

def VC16 (words : (List (List Int))) (K : Bool → Prop) : Prop :=
  Loop (σ := Int) (fun s X => VC16_l1 words K s X) (0 : Int)

set_option maxHeartbeats 4000000 in
theorem link16 (words : (List (List Int))) (K : Bool → Prop) (h : VC16 words K) : ACalls Try.prog 16 [toV1 (.sl (.sl (.int .u8))) words] (fun res => ∃ y, res = (fun y => [toV1 .bool y]) y ∧ K y) := by
  refine acalls_of_aw [.bool] [2] Try.func16 rfl rfl rfl ?_
  unfold VC16 at h
  refine aw_seq ?_
  refine aw_region ?_
  refine awl_runp 1 [0] [] (ob := (True ∧ True)) (st' := (⟨15, [(0, [], .v (.c (.p (.sl (.sl (.int .u8))) words)))], []⟩ : St)) (by kernel_rfl) ⟨trivial, trivial⟩ ?_
  refine awl_nil ?_
  refine thenQ_n ?_
  refine aw_seq ?_
  refine aw_seq ?_
  refine aw_region ?_
  refine awl_runp 3 [5, 6, 7] [] (ob := (True ∧ True ∧ True ∧ True)) (st' := (⟨15, [(5, [], .v (.c (.p (.sl (.sl (.int .u8))) words))), (6, [], .v (.c (.p (.int .i64) (words.length : Int)))), (7, [], .v (.c (.p (.int .i64) (0 : Int))))], []⟩ : St)) (by kernel_rfl) ⟨trivial, trivial, trivial, trivial⟩ ?_
  refine awl_nil ?_
  refine thenQ_n ?_
  refine withJoin (σ := Unit) (fun s => (⟨15, [], []⟩ : St)) (fun s => VC16_k1 K) (fun s h => ?_) (fun rest1 => ?_)
  · have h : VC16_k1 K := h
    unfold VC16_k1 at h
    refine thenQ_n ?_
    refine aw_seq ?_
    refine aw_region ?_
    refine awl_runp 1 [2] [] (ob := (True ∧ True)) (st' := (⟨15, [(2, [], .v (.c (.p .bool false)))], []⟩ : St)) (by kernel_rfl) ⟨trivial, trivial⟩ ?_
    refine awl_nil ?_
    refine thenQ_n ?_
    refine aw_ret ?_
    exact retQ_r (σ := Bool) (R := (fun y => [toV1 .bool y])) false (by kernel_rfl) h
  · refine aw_block ?_
    refine aw_loop (σ := Int) (fun s => (⟨15, [(5, [], .v (.c (.p (.sl (.sl (.int .u8))) words))), (6, [], .v (.c (.p (.int .i64) (words.length : Int)))), (7, [], .v (.c (.p (.int .i64) s)))], []⟩ : St)) (fun s X => VC16_l1 words K s X) (s0 := (0 : Int)) (fun v7 X1 h => ?_) h
    have h : VC16_l1 words K v7 X1 := h
    unfold VC16_l1 at h
    refine aw_seq ?_
    refine aw_region ?_
    refine awl_runp 1 [5, 6, 7, 8] [] (ob := (True ∧ True)) (st' := (⟨15, [(5, [], .v (.c (.p (.sl (.sl (.int .u8))) words))), (6, [], .v (.c (.p (.int .i64) (words.length : Int)))), (7, [], .v (.c (.p (.int .i64) v7))), (8, [], .v (.c (.p .bool (decide (v7 < (words.length : Int))))))], []⟩ : St)) (by kernel_rfl) ⟨trivial, trivial⟩ ?_
    refine awl_nil ?_
    refine thenQ_n ?_
    refine aw_seq ?_
    refine aw_cond (b := (decide (v7 < (words.length : Int)))) (by kernel_rfl) (fun hb => ?_) (fun hb => ?_)
    · have h := h.1 hb
      refine aw_skip ?_
      refine thenQ_n ?_
      refine aw_seq ?_
      refine aw_block ?_
      refine aw_seq ?_
      refine aw_region ?_
      obtain ⟨o1, h⟩ := h
      refine awl_runp 3 [4, 5, 6, 7] [] (ob := (inIdx v7 words.length ∧ True ∧ True ∧ True)) (st' := (⟨15, [(4, [], .v (.c (.p (.sl (.int .u8)) (words.getD (v7).toNat ([] : (List Int)))))), (5, [], .v (.c (.p (.sl (.sl (.int .u8))) words))), (6, [], .v (.c (.p (.int .i64) (words.length : Int)))), (7, [], .v (.c (.p (.int .i64) v7)))], []⟩ : St)) (by kernel_rfl) ⟨o1, trivial, trivial, trivial⟩ ?_
      refine awl_nil ?_
      refine thenQ_n ?_
      refine aw_seq ?_
      refine aw_region ?_
      refine awl_runp 3 [5, 6, 7, 13] [] (ob := (True ∧ True ∧ True ∧ True)) (st' := (⟨15, [(5, [], .v (.c (.p (.sl (.sl (.int .u8))) words))), (6, [], .v (.c (.p (.int .i64) (words.length : Int)))), (7, [], .v (.c (.p (.int .i64) v7))), (13, [], .v (.c (.p .bool (decide ((60 : Int) < ((words.getD (v7).toNat ([] : (List Int))).length : Int))))))], []⟩ : St)) (by kernel_rfl) ⟨trivial, trivial, trivial, trivial⟩ ?_
      refine awl_nil ?_
      refine thenQ_n ?_
      refine aw_cond (b := (decide ((60 : Int) < ((words.getD (v7).toNat ([] : (List Int))).length : Int)))) (by kernel_rfl) (fun hb => ?_) (fun hb => ?_)
      · have h := h.1 hb
        refine aw_seq ?_
        refine aw_region ?_
        refine awl_runp 1 [2] [] (ob := (True ∧ True)) (st' := (⟨15, [(2, [], .v (.c (.p .bool true)))], []⟩ : St)) (by kernel_rfl) ⟨trivial, trivial⟩ ?_
        refine awl_nil ?_
        refine thenQ_n ?_
        refine aw_ret ?_
        refine blockQ_r ?_
        refine thenQ_r ?_
        refine thenQ_r ?_
        refine blockQ_r ?_
        refine thenQ_r ?_
        exact retQ_r (σ := Bool) (R := (fun y => [toV1 .bool y])) true (by kernel_rfl) h
      · have h := h.2 hb
        refine aw_skip ?_
        refine blockQ_n ?_
        refine thenQ_n ?_
        refine aw_region ?_
        obtain ⟨o1, h⟩ := h
        refine awl_runp 2 [5, 6, 7] [] (ob := (InR (v7 + (1 : Int)) ∧ True ∧ True)) (st' := (⟨15, [(5, [], .v (.c (.p (.sl (.sl (.int .u8))) words))), (6, [], .v (.c (.p (.int .i64) (words.length : Int)))), (7, [], .v (.c (.p (.int .i64) (v7 + (1 : Int)))))], []⟩ : St)) (by kernel_rfl) ⟨o1, trivial, trivial⟩ ?_
        refine awl_nil ?_
        exact thenQ_n ⟨(v7 + (1 : Int)), rfl, h⟩
    · have h := h.2 hb
      refine aw_conv [.prune [] []] (st' := (⟨15, [], []⟩ : St)) (by kernel_rfl) ?_
      refine aw_exit ?_
      refine thenQ_x ?_
      refine thenQ_x ?_
      refine blockQ_hit ?_
      exact rest1 () h

-- coppicer/coppicerkeep.gcd
def VC17_k1 (K : Int → Prop) (a2 : Int) : Prop :=
  K a2

def VC17_l1 (K : Int → Prop) (a2 : Int) (b2 : Int) (X1 : Int × Int → Prop) : Prop :=
  (((decide ((0 : Int) < b2)) = true → ((0 ≤ a2 ∧ 0 < b2) ∧ X1 (b2, (a2 % b2)))) ∧ ((decide ((0 : Int) < b2)) = false → VC17_k1 K a2))

def VC17 (a : Int) (b : Int) (K : Int → Prop) : Prop :=
  Loop (σ := Int × Int) (fun s X => VC17_l1 K s.1 s.2 X) (a, b)

set_option maxHeartbeats 4000000 in
theorem link17 (a : Int) (b : Int) (K : Int → Prop) (h : VC17 a b K) : ACalls Try.prog 17 [toV1 (.int .i64) a, toV1 (.int .i64) b] (fun res => ∃ y, res = (fun y => [toV1 (.int .i64) y]) y ∧ K y) := by
  refine acalls_of_aw [(.int .i64)] [4] Try.func17 rfl rfl rfl ?_
  unfold VC17 at h
  refine aw_seq ?_
  refine aw_region ?_
  refine awl_runp 1 [0, 1] [] (ob := (True ∧ True)) (st' := (⟨12, [(0, [], .v (.c (.p (.int .i64) a))), (1, [], .v (.c (.p (.int .i64) b)))], []⟩ : St)) (by kernel_rfl) ⟨trivial, trivial⟩ ?_
  refine awl_nil ?_
  refine thenQ_n ?_
  refine aw_seq ?_
  refine withJoin (σ := Int) (fun s => (⟨12, [(0, [], .v (.c (.p (.int .i64) s)))], []⟩ : St)) (fun s => VC17_k1 K s) (fun a2 h => ?_) (fun rest1 => ?_)
  · have h : VC17_k1 K a2 := h
    unfold VC17_k1 at h
    refine thenQ_n ?_
    refine aw_seq ?_
    refine aw_region ?_
    refine awl_runp 2 [4] [] (ob := (True ∧ True ∧ True)) (st' := (⟨12, [(4, [], .v (.c (.p (.int .i64) a2)))], []⟩ : St)) (by kernel_rfl) ⟨trivial, trivial, trivial⟩ ?_
    refine awl_nil ?_
    refine thenQ_n ?_
    refine aw_ret ?_
    exact retQ_r (σ := Int) (R := (fun y => [toV1 (.int .i64) y])) a2 (by kernel_rfl) h
  · refine aw_block ?_
    refine aw_loop (σ := Int × Int) (fun s => (⟨12, [(0, [], .v (.c (.p (.int .i64) s.1))), (1, [], .v (.c (.p (.int .i64) s.2)))], []⟩ : St)) (fun s X => VC17_l1 K s.1 s.2 X) (s0 := (a, b)) (fun s X1 h => ?_) h
    obtain ⟨a2, b2⟩ := s
    have h : VC17_l1 K a2 b2 X1 := h
    unfold VC17_l1 at h
    refine aw_seq ?_
    refine aw_seq ?_
    refine aw_region ?_
    refine awl_runp 2 [0, 1, 6] [] (ob := (True ∧ True ∧ True)) (st' := (⟨12, [(0, [], .v (.c (.p (.int .i64) a2))), (1, [], .v (.c (.p (.int .i64) b2))), (6, [], .v (.c (.p .bool (decide ((0 : Int) < b2)))))], []⟩ : St)) (by kernel_rfl) ⟨trivial, trivial, trivial⟩ ?_
    refine awl_nil ?_
    refine thenQ_n ?_
    refine aw_cond (b := (decide ((0 : Int) < b2))) (by kernel_rfl) (fun hb => ?_) (fun hb => ?_)
    · have h := h.1 hb
      refine aw_skip ?_
      refine thenQ_n ?_
      refine aw_block ?_
      refine awd_begin (by kernel_rfl) ?_
      obtain ⟨o1, h⟩ := h
      refine awd_runp (by kernel_rfl) [0, 1, 2, 3, 4, 5] [0, 1] [] (ob := (True ∧ True ∧ True ∧ (0 ≤ a2 ∧ 0 < b2) ∧ True ∧ True ∧ True)) (done' := [5, 4, 3, 2, 1, 0]) (st' := (⟨12, [(0, [], .v (.c (.p (.int .i64) b2))), (1, [], .v (.c (.p (.int .i64) (a2 % b2))))], []⟩ : St)) (by kernel_rfl) ⟨trivial, trivial, trivial, o1, trivial, trivial, trivial⟩ ?_
      refine awd_done (by kernel_rfl) ?_
      refine blockQ_n ?_
      exact thenQ_n ⟨(b2, (a2 % b2)), rfl, h⟩
    · have h := h.2 hb
      refine aw_conv [.prune [0] []] (st' := (⟨12, [(0, [], .v (.c (.p (.int .i64) a2)))], []⟩ : St)) (by kernel_rfl) ?_
      refine aw_exit ?_
      refine thenQ_x ?_
      refine thenQ_x ?_
      refine blockQ_hit ?_
      exact rest1 a2 h

-- coppicer/begin.Cover
def VC18_k1 (w : (List Int)) (K : Bool × Int → Prop) (endv : Int) : Prop :=
  K ((decide (endv = (w.length : Int))), (0 : Int))

def VC18_k2 (i : Int) (X1 : Int × Int → Prop) (endv2 : Int) : Prop :=
  (InR (i + (1 : Int)) ∧ X1 (endv2, (i + (1 : Int))))

def VC18_l1 (w : (List Int)) (u : (List Int)) (K : Bool × Int → Prop) (endv : Int) (i : Int) (X1 : Int × Int → Prop) : Prop :=
  (InR (i + (u.length : Int)) ∧ (((decide ((i + (u.length : Int)) ≤ (w.length : Int))) = true → (InR (i + (u.length : Int)) ∧ (0 ≤ i ∧ i ≤ (i + (u.length : Int)) ∧ (i + (u.length : Int)) ≤ (w.length : Int)) ∧ VC40 ((w.take ((i + (u.length : Int))).toNat).drop (i).toNat) u (fun (ret36v : Bool) => ((ret36v = true → (((decide (endv < i)) = true → K (false, (0 : Int))) ∧ ((decide (endv < i)) = false → (InR (i + (u.length : Int)) ∧ VC18_k2 i X1 (i + (u.length : Int)))))) ∧ (ret36v = false → VC18_k2 i X1 endv))))) ∧ ((decide ((i + (u.length : Int)) ≤ (w.length : Int))) = false → VC18_k1 w K endv)))

def VC18 (w : (List Int)) (u : (List Int)) (K : Bool × Int → Prop) : Prop :=
  VC38 [w, u] (fun (ret12v : Int) => (((!decide (ret12v = (0 : Int))) = true → K (false, ret12v)) ∧ ((!decide (ret12v = (0 : Int))) = false → (((decide ((u.length : Int) = (0 : Int))) = true → K (false, (2 : Int))) ∧ ((decide ((u.length : Int) = (0 : Int))) = false → Loop (σ := Int × Int) (fun s X => VC18_l1 w u K s.1 s.2 X) ((0 : Int), (0 : Int)))))))

set_option maxHeartbeats 4000000 in
theorem link18 (w : (List Int)) (u : (List Int)) (K : Bool × Int → Prop) (h : VC18 w u K) : ACalls Try.prog 18 [toV1 (.sl (.int .u8)) w, toV1 (.sl (.int .u8)) u] (fun res => ∃ y, res = (fun y => [toV1 .bool y.1, toV1 (.int .i64) y.2]) y ∧ K y) := by
  refine acalls_of_aw [.bool, (.int .i64)] [4, 5] Try.func18 rfl rfl rfl ?_
  unfold VC18 at h
  refine aw_seq ?_
  refine aw_region ?_
  refine awl_runp 2 [0, 1] [] (ob := (True ∧ True ∧ True)) (st' := (⟨48, [(0, [], .v (.c (.p (.sl (.int .u8)) w))), (1, [], .v (.c (.p (.sl (.int .u8)) u)))], []⟩ : St)) (by kernel_rfl) ⟨trivial, trivial, trivial⟩ ?_
  refine awl_nil ?_
  refine thenQ_n ?_
  refine aw_seq ?_
  refine aw_seq ?_
  refine aw_region ?_
  refine awl_runp 3 [0, 1, 11] [11] (ob := (True ∧ True ∧ True ∧ True)) (st' := (⟨48, [(0, [], .v (.c (.p (.sl (.int .u8)) w))), (1, [], .v (.c (.p (.sl (.int .u8)) u))), (11, [], .v (.c (.own 11)))], [(11, [], .arr 22 (.sl (.int .u8)) [w, u])]⟩ : St)) (by kernel_rfl) ⟨trivial, trivial, trivial, trivial⟩ ?_
  refine awl_callk (p := []) (l := [toV1 (.sl (.sl (.int .u8))) [w, u]]) true [(.sl (.sl (.int .u8)))] [0, 1, 12] [] (fun (ret12v : Int) => (((!decide (ret12v = (0 : Int))) = true → K (false, ret12v)) ∧ ((!decide (ret12v = (0 : Int))) = false → (((decide ((u.length : Int) = (0 : Int))) = true → K (false, (2 : Int))) ∧ ((decide ((u.length : Int) = (0 : Int))) = false → Loop (σ := Int × Int) (fun s X => VC18_l1 w u K s.1 s.2 X) ((0 : Int), (0 : Int))))))) (fun ret12v => [toV1 (.int .i64) ret12v]) (fun ret12v => (⟨48, [(0, [], .v (.c (.p (.sl (.int .u8)) w))), (1, [], .v (.c (.p (.sl (.int .u8)) u))), (12, [], .v (.c (.p (.int .i64) ret12v)))], []⟩ : St)) (by kernel_rfl) rfl (by kernel_rfl) rfl rfl Try.call38 (by kernel_rfl) (fun ret12v => by kernel_rfl) (fun _ _ => rfl) (fun hg => link38 [w, u] _ h) (fun hg => noF hg) (fun ret12v h => ?_)
  have h : (((!decide (ret12v = (0 : Int))) = true → K (false, ret12v)) ∧ ((!decide (ret12v = (0 : Int))) = false → (((decide ((u.length : Int) = (0 : Int))) = true → K (false, (2 : Int))) ∧ ((decide ((u.length : Int) = (0 : Int))) = false → Loop (σ := Int × Int) (fun s X => VC18_l1 w u K s.1 s.2 X) ((0 : Int), (0 : Int)))))) := h
  refine awl_runp 1 [0, 1, 6] [] (ob := (True ∧ True)) (st' := (⟨48, [(0, [], .v (.c (.p (.sl (.int .u8)) w))), (1, [], .v (.c (.p (.sl (.int .u8)) u))), (6, [], .v (.c (.p (.int .i64) ret12v)))], []⟩ : St)) (by kernel_rfl) ⟨trivial, trivial⟩ ?_
  refine awl_nil ?_
  refine thenQ_n ?_
  refine aw_seq ?_
  refine aw_region ?_
  refine awl_runp 2 [0, 1, 6, 14] [] (ob := (True ∧ True ∧ True)) (st' := (⟨48, [(0, [], .v (.c (.p (.sl (.int .u8)) w))), (1, [], .v (.c (.p (.sl (.int .u8)) u))), (6, [], .v (.c (.p (.int .i64) ret12v))), (14, [], .v (.c (.p .bool (!decide (ret12v = (0 : Int))))))], []⟩ : St)) (by kernel_rfl) ⟨trivial, trivial, trivial⟩ ?_
  refine awl_nil ?_
  refine thenQ_n ?_
  refine aw_cond (b := (!decide (ret12v = (0 : Int)))) (by kernel_rfl) (fun hb => ?_) (fun hb => ?_)
  · have h := h.1 hb
    refine aw_seq ?_
    refine aw_region ?_
    refine awl_runp 3 [4, 5] [] (ob := (True ∧ True ∧ True ∧ True)) (st' := (⟨48, [(4, [], .v (.c (.p .bool false))), (5, [], .v (.c (.p (.int .i64) ret12v)))], []⟩ : St)) (by kernel_rfl) ⟨trivial, trivial, trivial, trivial⟩ ?_
    refine awl_nil ?_
    refine thenQ_n ?_
    refine aw_ret ?_
    refine thenQ_r ?_
    exact retQ_r (σ := Bool × Int) (R := (fun y => [toV1 .bool y.1, toV1 (.int .i64) y.2])) (false, ret12v) (by kernel_rfl) h
  · have h := h.2 hb
    refine aw_skip ?_
    refine thenQ_n ?_
    refine aw_seq ?_
    refine aw_seq ?_
    refine aw_region ?_
    refine awl_runp 3 [0, 1, 18] [] (ob := (True ∧ True ∧ True ∧ True)) (st' := (⟨48, [(0, [], .v (.c (.p (.sl (.int .u8)) w))), (1, [], .v (.c (.p (.sl (.int .u8)) u))), (18, [], .v (.c (.p .bool (decide ((u.length : Int) = (0 : Int))))))], []⟩ : St)) (by kernel_rfl) ⟨trivial, trivial, trivial, trivial⟩ ?_
    refine awl_nil ?_
    refine thenQ_n ?_
    refine aw_cond (b := (decide ((u.length : Int) = (0 : Int)))) (by kernel_rfl) (fun hb => ?_) (fun hb => ?_)
    · have h := h.1 hb
      refine aw_seq ?_
      refine aw_region ?_
      refine awl_runp 2 [4, 5] [] (ob := (True ∧ True ∧ True)) (st' := (⟨48, [(4, [], .v (.c (.p .bool false))), (5, [], .v (.c (.p (.int .i64) (2 : Int))))], []⟩ : St)) (by kernel_rfl) ⟨trivial, trivial, trivial⟩ ?_
      refine awl_nil ?_
      refine thenQ_n ?_
      refine aw_ret ?_
      refine thenQ_r ?_
      exact retQ_r (σ := Bool × Int) (R := (fun y => [toV1 .bool y.1, toV1 (.int .i64) y.2])) (false, (2 : Int)) (by kernel_rfl) h
    · have h := h.2 hb
      refine aw_skip ?_
      refine thenQ_n ?_
      refine aw_seq ?_
      refine aw_region ?_
      refine awl_runp 1 [0, 1, 7] [] (ob := (True ∧ True)) (st' := (⟨48, [(0, [], .v (.c (.p (.sl (.int .u8)) w))), (1, [], .v (.c (.p (.sl (.int .u8)) u))), (7, [], .v (.c (.p (.int .i64) (0 : Int))))], []⟩ : St)) (by kernel_rfl) ⟨trivial, trivial⟩ ?_
      refine awl_nil ?_
      refine thenQ_n ?_
      refine aw_seq ?_
      refine aw_seq ?_
      refine aw_region ?_
      refine awl_runp 1 [0, 1, 7, 8] [] (ob := (True ∧ True)) (st' := (⟨48, [(0, [], .v (.c (.p (.sl (.int .u8)) w))), (1, [], .v (.c (.p (.sl (.int .u8)) u))), (7, [], .v (.c (.p (.int .i64) (0 : Int)))), (8, [], .v (.c (.p (.int .i64) (0 : Int))))], []⟩ : St)) (by kernel_rfl) ⟨trivial, trivial⟩ ?_
      refine awl_nil ?_
      refine thenQ_n ?_
      refine withJoin (σ := Int) (fun s => (⟨48, [(0, [], .v (.c (.p (.sl (.int .u8)) w))), (7, [], .v (.c (.p (.int .i64) s)))], []⟩ : St)) (fun s => VC18_k1 w K s) (fun endv h => ?_) (fun rest1 => ?_)
      · have h : VC18_k1 w K endv := h
        unfold VC18_k1 at h
        refine thenQ_n ?_
        refine aw_seq ?_
        refine aw_region ?_
        refine awl_runp 6 [4, 5] [] (ob := (True ∧ True ∧ True ∧ True ∧ True ∧ True ∧ True)) (st' := (⟨48, [(4, [], .v (.c (.p .bool (decide (endv = (w.length : Int)))))), (5, [], .v (.c (.p (.int .i64) (0 : Int))))], []⟩ : St)) (by kernel_rfl) ⟨trivial, trivial, trivial, trivial, trivial, trivial, trivial⟩ ?_
        refine awl_nil ?_
        refine thenQ_n ?_
        refine aw_ret ?_
        exact retQ_r (σ := Bool × Int) (R := (fun y => [toV1 .bool y.1, toV1 (.int .i64) y.2])) ((decide (endv = (w.length : Int))), (0 : Int)) (by kernel_rfl) h
      · refine aw_block ?_
        refine aw_loop (σ := Int × Int) (fun s => (⟨48, [(0, [], .v (.c (.p (.sl (.int .u8)) w))), (1, [], .v (.c (.p (.sl (.int .u8)) u))), (7, [], .v (.c (.p (.int .i64) s.1))), (8, [], .v (.c (.p (.int .i64) s.2)))], []⟩ : St)) (fun s X => VC18_l1 w u K s.1 s.2 X) (s0 := ((0 : Int), (0 : Int))) (fun s X1 h => ?_) h
        obtain ⟨endv, i⟩ := s
        have h : VC18_l1 w u K endv i X1 := h
        unfold VC18_l1 at h
        refine aw_seq ?_
        refine aw_seq ?_
        refine aw_region ?_
        obtain ⟨o1, h⟩ := h
        refine awl_runp 7 [0, 1, 7, 8, 25] [] (ob := (True ∧ True ∧ True ∧ InR (i + (u.length : Int)) ∧ True ∧ True ∧ True ∧ True)) (st' := (⟨48, [(0, [], .v (.c (.p (.sl (.int .u8)) w))), (1, [], .v (.c (.p (.sl (.int .u8)) u))), (7, [], .v (.c (.p (.int .i64) endv))), (8, [], .v (.c (.p (.int .i64) i))), (25, [], .v (.c (.p .bool (decide ((i + (u.length : Int)) ≤ (w.length : Int))))))], []⟩ : St)) (by kernel_rfl) ⟨trivial, trivial, trivial, o1, trivial, trivial, trivial, trivial⟩ ?_
        refine awl_nil ?_
        refine thenQ_n ?_
        refine aw_cond (b := (decide ((i + (u.length : Int)) ≤ (w.length : Int)))) (by kernel_rfl) (fun hb => ?_) (fun hb => ?_)
        · have h := h.1 hb
          refine aw_skip ?_
          refine thenQ_n ?_
          refine aw_seq ?_
          refine aw_block ?_
          refine aw_seq ?_
          refine aw_region ?_
          obtain ⟨o1, o2, h⟩ := h
          refine awl_runp 8 [0, 1, 7, 8, 34, 35] [] (ob := (True ∧ True ∧ True ∧ True ∧ True ∧ InR (i + (u.length : Int)) ∧ (0 ≤ i ∧ i ≤ (i + (u.length : Int)) ∧ (i + (u.length : Int)) ≤ (w.length : Int)) ∧ True ∧ True)) (st' := (⟨48, [(0, [], .v (.c (.p (.sl (.int .u8)) w))), (1, [], .v (.c (.p (.sl (.int .u8)) u))), (7, [], .v (.c (.p (.int .i64) endv))), (8, [], .v (.c (.p (.int .i64) i))), (34, [], .v (.c (.p (.sl (.int .u8)) ((w.take ((i + (u.length : Int))).toNat).drop (i).toNat)))), (35, [], .v (.c (.p (.sl (.int .u8)) u)))], []⟩ : St)) (by kernel_rfl) ⟨trivial, trivial, trivial, trivial, trivial, o1, o2, trivial, trivial⟩ ?_
          refine awl_callk (p := []) (l := [toV1 (.sl (.int .u8)) ((w.take ((i + (u.length : Int))).toNat).drop (i).toNat), toV1 (.sl (.int .u8)) u]) false [(.sl (.int .u8)), (.sl (.int .u8))] [0, 1, 7, 8, 36] [] (fun (ret36v : Bool) => ((ret36v = true → (((decide (endv < i)) = true → K (false, (0 : Int))) ∧ ((decide (endv < i)) = false → (InR (i + (u.length : Int)) ∧ VC18_k2 i X1 (i + (u.length : Int)))))) ∧ (ret36v = false → VC18_k2 i X1 endv))) (fun ret36v => [toV1 .bool ret36v]) (fun ret36v => (⟨48, [(0, [], .v (.c (.p (.sl (.int .u8)) w))), (1, [], .v (.c (.p (.sl (.int .u8)) u))), (7, [], .v (.c (.p (.int .i64) endv))), (8, [], .v (.c (.p (.int .i64) i))), (36, [], .v (.c (.p .bool ret36v)))], []⟩ : St)) (by kernel_rfl) rfl (by kernel_rfl) rfl rfl Try.call40 (by kernel_rfl) (fun ret36v => by kernel_rfl) (fun e => by cases e) (fun hg => link40 ((w.take ((i + (u.length : Int))).toNat).drop (i).toNat) u _ h) (fun hg => noF hg) (fun ret36v h => ?_)
          have h : ((ret36v = true → (((decide (endv < i)) = true → K (false, (0 : Int))) ∧ ((decide (endv < i)) = false → (InR (i + (u.length : Int)) ∧ VC18_k2 i X1 (i + (u.length : Int)))))) ∧ (ret36v = false → VC18_k2 i X1 endv)) := h
          refine awl_nil ?_
          refine thenQ_n ?_
          refine withJoin (σ := Int) (fun s => (⟨48, [(0, [], .v (.c (.p (.sl (.int .u8)) w))), (1, [], .v (.c (.p (.sl (.int .u8)) u))), (7, [], .v (.c (.p (.int .i64) s))), (8, [], .v (.c (.p (.int .i64) i)))], []⟩ : St)) (fun s => VC18_k2 i X1 s) (fun endv2 h => ?_) (fun rest2 => ?_)
          · have h : VC18_k2 i X1 endv2 := h
            unfold VC18_k2 at h
            refine blockQ_n ?_
            refine thenQ_n ?_
            refine aw_region ?_
            obtain ⟨o1, h⟩ := h
            refine awl_runp 3 [0, 1, 7, 8] [] (ob := (True ∧ InR (i + (1 : Int)) ∧ True ∧ True)) (st' := (⟨48, [(0, [], .v (.c (.p (.sl (.int .u8)) w))), (1, [], .v (.c (.p (.sl (.int .u8)) u))), (7, [], .v (.c (.p (.int .i64) endv2))), (8, [], .v (.c (.p (.int .i64) (i + (1 : Int)))))], []⟩ : St)) (by kernel_rfl) ⟨trivial, o1, trivial, trivial⟩ ?_
            refine awl_nil ?_
            exact thenQ_n ⟨(endv2, (i + (1 : Int))), rfl, h⟩
          · refine aw_cond (b := ret36v) (by kernel_rfl) (fun hb => ?_) (fun hb => ?_)
            · have h := h.1 hb
              refine aw_seq ?_
              refine aw_seq ?_
              refine aw_region ?_
              refine awl_runp 3 [0, 1, 8, 39] [] (ob := (True ∧ True ∧ True ∧ True)) (st' := (⟨48, [(0, [], .v (.c (.p (.sl (.int .u8)) w))), (1, [], .v (.c (.p (.sl (.int .u8)) u))), (8, [], .v (.c (.p (.int .i64) i))), (39, [], .v (.c (.p .bool (decide (endv < i)))))], []⟩ : St)) (by kernel_rfl) ⟨trivial, trivial, trivial, trivial⟩ ?_
              refine awl_nil ?_
              refine thenQ_n ?_
              refine aw_cond (b := (decide (endv < i))) (by kernel_rfl) (fun hb => ?_) (fun hb => ?_)
              · have h := h.1 hb
                refine aw_seq ?_
                refine aw_region ?_
                refine awl_runp 2 [4, 5] [] (ob := (True ∧ True ∧ True)) (st' := (⟨48, [(4, [], .v (.c (.p .bool false))), (5, [], .v (.c (.p (.int .i64) (0 : Int))))], []⟩ : St)) (by kernel_rfl) ⟨trivial, trivial, trivial⟩ ?_
                refine awl_nil ?_
                refine thenQ_n ?_
                refine aw_ret ?_
                refine thenQ_r ?_
                refine blockQ_r ?_
                refine thenQ_r ?_
                refine thenQ_r ?_
                refine blockQ_r ?_
                refine thenQ_r ?_
                exact retQ_r (σ := Bool × Int) (R := (fun y => [toV1 .bool y.1, toV1 (.int .i64) y.2])) (false, (0 : Int)) (by kernel_rfl) h
              · have h := h.2 hb
                refine aw_skip ?_
                refine thenQ_n ?_
                refine aw_region ?_
                obtain ⟨o1, h⟩ := h
                refine awl_runp 5 [0, 1, 7, 8] [] (ob := (True ∧ True ∧ True ∧ InR (i + (u.length : Int)) ∧ True ∧ True)) (st' := (⟨48, [(0, [], .v (.c (.p (.sl (.int .u8)) w))), (1, [], .v (.c (.p (.sl (.int .u8)) u))), (7, [], .v (.c (.p (.int .i64) (i + (u.length : Int))))), (8, [], .v (.c (.p (.int .i64) i)))], []⟩ : St)) (by kernel_rfl) ⟨trivial, trivial, trivial, o1, trivial, trivial⟩ ?_
                refine awl_nil ?_
                exact rest2 (i + (u.length : Int)) h
            · have h := h.2 hb
              refine aw_conv [.prune [0, 1, 7, 8] []] (st' := (⟨48, [(0, [], .v (.c (.p (.sl (.int .u8)) w))), (1, [], .v (.c (.p (.sl (.int .u8)) u))), (7, [], .v (.c (.p (.int .i64) endv))), (8, [], .v (.c (.p (.int .i64) i)))], []⟩ : St)) (by kernel_rfl) ?_
              refine aw_skip ?_
              exact rest2 endv h
        · have h := h.2 hb
          refine aw_conv [.prune [0, 7] []] (st' := (⟨48, [(0, [], .v (.c (.p (.sl (.int .u8)) w))), (7, [], .v (.c (.p (.int .i64) endv)))], []⟩ : St)) (by kernel_rfl) ?_
          refine aw_exit ?_
          refine thenQ_x ?_
          refine thenQ_x ?_
          refine blockQ_hit ?_
          exact rest1 endv h

-- coppicer/coppicerref.Bytes
def VC21_k1 (K : Bool → Prop) : Prop :=
  K true

def VC21_l1 (a : (List Int)) (b : (List Int)) (K : Bool → Prop) (i : Int) (X1 : Int → Prop) : Prop :=
  (((decide (i < (a.length : Int))) = true → (inIdx i a.length ∧ inIdx i b.length ∧ (((!decide ((a.getD (i).toNat (0 : Int)) = (b.getD (i).toNat (0 : Int)))) = true → K false) ∧ ((!decide ((a.getD (i).toNat (0 : Int)) = (b.getD (i).toNat (0 : Int)))) = false → (InR (i + (1 : Int)) ∧ X1 (i + (1 : Int))))))) ∧ ((decide (i < (a.length : Int))) = false → VC21_k1 K))

def VC21 (a : (List Int)) (b : (List Int)) (K : Bool → Prop) : Prop :=
  (((!decide ((a.length : Int) = (b.length : Int))) = true → K false) ∧ ((!decide ((a.length : Int) = (b.length : Int))) = false → Loop (σ := Int) (fun s X => VC21_l1 a b K s X) (0 : Int)))

set_option maxHeartbeats 4000000 in
theorem link21 (a : (List Int)) (b : (List Int)) (K : Bool → Prop) (h : VC21 a b K) : ACalls Try.prog 21 [toV1 (.sl (.int .u8)) a, toV1 (.sl (.int .u8)) b] (fun res => ∃ y, res = (fun y => [toV1 .bool y]) y ∧ K y) := by
  refine acalls_of_aw [.bool] [4] Try.func21 rfl rfl rfl ?_
  unfold VC21 at h
  refine aw_seq ?_
  refine aw_region ?_
  refine awl_runp 1 [0, 1] [] (ob := (True ∧ True)) (st' := (⟨26, [(0, [], .v (.c (.p (.sl (.int .u8)) a))), (1, [], .v (.c (.p (.sl (.int .u8)) b)))], []⟩ : St)) (by kernel_rfl) ⟨trivial, trivial⟩ ?_
  refine awl_nil ?_
  refine thenQ_n ?_
  refine aw_seq ?_
  refine aw_seq ?_
  refine aw_region ?_
  refine awl_runp 5 [0, 1, 10] [] (ob := (True ∧ True ∧ True ∧ True ∧ True ∧ True)) (st' := (⟨26, [(0, [], .v (.c (.p (.sl (.int .u8)) a))), (1, [], .v (.c (.p (.sl (.int .u8)) b))), (10, [], .v (.c (.p .bool (!decide ((a.length : Int) = (b.length : Int))))))], []⟩ : St)) (by kernel_rfl) ⟨trivial, trivial, trivial, trivial, trivial, trivial⟩ ?_
  refine awl_nil ?_
  refine thenQ_n ?_
  refine aw_cond (b := (!decide ((a.length : Int) = (b.length : Int)))) (by kernel_rfl) (fun hb => ?_) (fun hb => ?_)
  · have h := h.1 hb
    refine aw_seq ?_
    refine aw_region ?_
    refine awl_runp 1 [4] [] (ob := (True ∧ True)) (st' := (⟨26, [(4, [], .v (.c (.p .bool false)))], []⟩ : St)) (by kernel_rfl) ⟨trivial, trivial⟩ ?_
    refine awl_nil ?_
    refine thenQ_n ?_
    refine aw_ret ?_
    refine thenQ_r ?_
    exact retQ_r (σ := Bool) (R := (fun y => [toV1 .bool y])) false (by kernel_rfl) h
  · have h := h.2 hb
    refine aw_skip ?_
    refine thenQ_n ?_
    refine aw_seq ?_
    refine aw_seq ?_
    refine aw_region ?_
    refine awl_runp 1 [0, 1, 5] [] (ob := (True ∧ True)) (st' := (⟨26, [(0, [], .v (.c (.p (.sl (.int .u8)) a))), (1, [], .v (.c (.p (.sl (.int .u8)) b))), (5, [], .v (.c (.p (.int .i64) (0 : Int))))], []⟩ : St)) (by kernel_rfl) ⟨trivial, trivial⟩ ?_
    refine awl_nil ?_
    refine thenQ_n ?_
    refine withJoin (σ := Unit) (fun s => (⟨26, [], []⟩ : St)) (fun s => VC21_k1 K) (fun s h => ?_) (fun rest1 => ?_)
    · have h : VC21_k1 K := h
      unfold VC21_k1 at h
      refine thenQ_n ?_
      refine aw_seq ?_
      refine aw_region ?_
      refine awl_runp 1 [4] [] (ob := (True ∧ True)) (st' := (⟨26, [(4, [], .v (.c (.p .bool true)))], []⟩ : St)) (by kernel_rfl) ⟨trivial, trivial⟩ ?_
      refine awl_nil ?_
      refine thenQ_n ?_
      refine aw_ret ?_
      exact retQ_r (σ := Bool) (R := (fun y => [toV1 .bool y])) true (by kernel_rfl) h
    · refine aw_block ?_
      refine aw_loop (σ := Int) (fun s => (⟨26, [(0, [], .v (.c (.p (.sl (.int .u8)) a))), (1, [], .v (.c (.p (.sl (.int .u8)) b))), (5, [], .v (.c (.p (.int .i64) s)))], []⟩ : St)) (fun s X => VC21_l1 a b K s X) (s0 := (0 : Int)) (fun i X1 h => ?_) h
      have h : VC21_l1 a b K i X1 := h
      unfold VC21_l1 at h
      refine aw_seq ?_
      refine aw_seq ?_
      refine aw_region ?_
      refine awl_runp 4 [0, 1, 5, 14] [] (ob := (True ∧ True ∧ True ∧ True ∧ True)) (st' := (⟨26, [(0, [], .v (.c (.p (.sl (.int .u8)) a))), (1, [], .v (.c (.p (.sl (.int .u8)) b))), (5, [], .v (.c (.p (.int .i64) i))), (14, [], .v (.c (.p .bool (decide (i < (a.length : Int))))))], []⟩ : St)) (by kernel_rfl) ⟨trivial, trivial, trivial, trivial, trivial⟩ ?_
      refine awl_nil ?_
      refine thenQ_n ?_
      refine aw_cond (b := (decide (i < (a.length : Int)))) (by kernel_rfl) (fun hb => ?_) (fun hb => ?_)
      · have h := h.1 hb
        refine aw_skip ?_
        refine thenQ_n ?_
        refine aw_seq ?_
        refine aw_block ?_
        refine aw_seq ?_
        refine awd_begin (by kernel_rfl) ?_
        obtain ⟨o1, o2, h⟩ := h
        refine awd_runp (by kernel_rfl) [0, 1, 2, 3, 4, 5, 6, 7, 8] [0, 1, 5, 25] [] (ob := (True ∧ True ∧ inIdx i a.length ∧ True ∧ True ∧ True ∧ inIdx i b.length ∧ True ∧ True ∧ True)) (done' := [8, 7, 6, 5, 4, 3, 2, 1, 0]) (st' := (⟨26, [(0, [], .v (.c (.p (.sl (.int .u8)) a))), (1, [], .v (.c (.p (.sl (.int .u8)) b))), (5, [], .v (.c (.p (.int .i64) i))), (25, [], .v (.c (.p .bool (!decide ((a.getD (i).toNat (0 : Int)) = (b.getD (i).toNat (0 : Int)))))))], []⟩ : St)) (by kernel_rfl) ⟨trivial, trivial, o1, trivial, trivial, trivial, o2, trivial, trivial, trivial⟩ ?_
        refine awd_done (by kernel_rfl) ?_
        refine thenQ_n ?_
        refine aw_cond (b := (!decide ((a.getD (i).toNat (0 : Int)) = (b.getD (i).toNat (0 : Int))))) (by kernel_rfl) (fun hb => ?_) (fun hb => ?_)
        · have h := h.1 hb
          refine aw_seq ?_
          refine aw_region ?_
          refine awl_runp 1 [4] [] (ob := (True ∧ True)) (st' := (⟨26, [(4, [], .v (.c (.p .bool false)))], []⟩ : St)) (by kernel_rfl) ⟨trivial, trivial⟩ ?_
          refine awl_nil ?_
          refine thenQ_n ?_
          refine aw_ret ?_
          refine blockQ_r ?_
          refine thenQ_r ?_
          refine thenQ_r ?_
          refine blockQ_r ?_
          refine thenQ_r ?_
          exact retQ_r (σ := Bool) (R := (fun y => [toV1 .bool y])) false (by kernel_rfl) h
        · have h := h.2 hb
          refine aw_skip ?_
          refine blockQ_n ?_
          refine thenQ_n ?_
          refine aw_region ?_
          obtain ⟨o1, h⟩ := h
          refine awl_runp 3 [0, 1, 5] [] (ob := (True ∧ InR (i + (1 : Int)) ∧ True ∧ True)) (st' := (⟨26, [(0, [], .v (.c (.p (.sl (.int .u8)) a))), (1, [], .v (.c (.p (.sl (.int .u8)) b))), (5, [], .v (.c (.p (.int .i64) (i + (1 : Int)))))], []⟩ : St)) (by kernel_rfl) ⟨trivial, o1, trivial, trivial⟩ ?_
          refine awl_nil ?_
          exact thenQ_n ⟨(i + (1 : Int)), rfl, h⟩
      · have h := h.2 hb
        refine aw_conv [.prune [] []] (st' := (⟨26, [], []⟩ : St)) (by kernel_rfl) ?_
        refine aw_exit ?_
        refine thenQ_x ?_
        refine thenQ_x ?_
        refine blockQ_hit ?_
        exact rest1 () h

-- coppicer/coppicerref.At
def VC19 (w : (List Int)) (u : (List Int)) (i : Int) (K : Bool → Prop) : Prop :=
  (((decide ((0 : Int) ≤ i)) = true → InR (i + (u.length : Int))) ∧ (((decide ((0 : Int) ≤ i)) && (decide ((i + (u.length : Int)) ≤ (w.length : Int)))) = true → InR (i + (u.length : Int))) ∧ (((decide ((0 : Int) ≤ i)) && (decide ((i + (u.length : Int)) ≤ (w.length : Int)))) = true → (0 ≤ i ∧ i ≤ (i + (u.length : Int)) ∧ (i + (u.length : Int)) ≤ (w.length : Int))) ∧ gcall (α := Bool) ((decide ((0 : Int) ≤ i)) && (decide ((i + (u.length : Int)) ≤ (w.length : Int)))) (VC21 ((w.take ((i + (u.length : Int))).toNat).drop (i).toNat) u) false (fun (ret27v : Bool) => K (((decide ((0 : Int) ≤ i)) && (decide ((i + (u.length : Int)) ≤ (w.length : Int)))) && ret27v)))

set_option maxHeartbeats 4000000 in
theorem link19 (w : (List Int)) (u : (List Int)) (i : Int) (K : Bool → Prop) (h : VC19 w u i K) : ACalls Try.prog 19 [toV1 (.sl (.int .u8)) w, toV1 (.sl (.int .u8)) u, toV1 (.int .i64) i] (fun res => ∃ y, res = (fun y => [toV1 .bool y]) y ∧ K y) := by
  refine acalls_of_aw [.bool] [6] Try.func19 rfl rfl rfl ?_
  unfold VC19 at h
  refine aw_seq ?_
  refine aw_region ?_
  refine awl_runp 1 [0, 1, 2] [] (ob := (True ∧ True)) (st' := (⟨29, [(0, [], .v (.c (.p (.sl (.int .u8)) w))), (1, [], .v (.c (.p (.sl (.int .u8)) u))), (2, [], .v (.c (.p (.int .i64) i)))], []⟩ : St)) (by kernel_rfl) ⟨trivial, trivial⟩ ?_
  refine awl_nil ?_
  refine thenQ_n ?_
  refine aw_seq ?_
  refine aw_region ?_
  obtain ⟨o1, o2, o3, h⟩ := h
  refine awl_runp 20 [18, 25, 26] [] (ob := (True ∧ True ∧ True ∧ ((decide ((0 : Int) ≤ i)) = true → True) ∧ ((decide ((0 : Int) ≤ i)) = true → True) ∧ ((decide ((0 : Int) ≤ i)) = true → True) ∧ ((decide ((0 : Int) ≤ i)) = true → InR (i + (u.length : Int))) ∧ ((decide ((0 : Int) ≤ i)) = true → True) ∧ ((decide ((0 : Int) ≤ i)) = true → True) ∧ ((decide ((0 : Int) ≤ i)) = true → True) ∧ True ∧ True ∧ (((decide ((0 : Int) ≤ i)) && (decide ((i + (u.length : Int)) ≤ (w.length : Int)))) = true → True) ∧ (((decide ((0 : Int) ≤ i)) && (decide ((i + (u.length : Int)) ≤ (w.length : Int)))) = true → True) ∧ (((decide ((0 : Int) ≤ i)) && (decide ((i + (u.length : Int)) ≤ (w.length : Int)))) = true → True) ∧ (((decide ((0 : Int) ≤ i)) && (decide ((i + (u.length : Int)) ≤ (w.length : Int)))) = true → True) ∧ (((decide ((0 : Int) ≤ i)) && (decide ((i + (u.length : Int)) ≤ (w.length : Int)))) = true → True) ∧ (((decide ((0 : Int) ≤ i)) && (decide ((i + (u.length : Int)) ≤ (w.length : Int)))) = true → InR (i + (u.length : Int))) ∧ (((decide ((0 : Int) ≤ i)) && (decide ((i + (u.length : Int)) ≤ (w.length : Int)))) = true → (0 ≤ i ∧ i ≤ (i + (u.length : Int)) ∧ (i + (u.length : Int)) ≤ (w.length : Int))) ∧ (((decide ((0 : Int) ≤ i)) && (decide ((i + (u.length : Int)) ≤ (w.length : Int)))) = true → True) ∧ True)) (st' := (⟨29, [(18, [], .v (.c (.p .bool ((decide ((0 : Int) ≤ i)) && (decide ((i + (u.length : Int)) ≤ (w.length : Int))))))), (25, [(18, true)], .v (.c (.p (.sl (.int .u8)) ((w.take ((i + (u.length : Int))).toNat).drop (i).toNat)))), (26, [(18, true)], .v (.c (.p (.sl (.int .u8)) u)))], []⟩ : St)) (by kernel_rfl) ⟨trivial, trivial, trivial, (fun _ => trivial), (fun _ => trivial), (fun _ => trivial), o1, (fun _ => trivial), (fun _ => trivial), (fun _ => trivial), trivial, trivial, (fun _ => trivial), (fun _ => trivial), (fun _ => trivial), (fun _ => trivial), (fun _ => trivial), o2, o3, (fun _ => trivial), trivial⟩ ?_
  refine awl_callk (p := [(18, true)]) (l := [toV1 (.sl (.int .u8)) ((w.take ((i + (u.length : Int))).toNat).drop (i).toNat), toV1 (.sl (.int .u8)) u]) false [(.sl (.int .u8)), (.sl (.int .u8))] [18, 27] [] (fun (ret27v : Bool) => K (((decide ((0 : Int) ≤ i)) && (decide ((i + (u.length : Int)) ≤ (w.length : Int)))) && ret27v)) (fun ret27v => [toV1 .bool ret27v]) (fun ret27v => (⟨29, [(18, [], .v (.c (.p .bool ((decide ((0 : Int) ≤ i)) && (decide ((i + (u.length : Int)) ≤ (w.length : Int))))))), (27, [(18, true)], .v (.c (.p .bool ret27v)))], []⟩ : St)) (by kernel_rfl) rfl (by kernel_rfl) rfl rfl Try.call21 (by kernel_rfl) (fun ret27v => by kernel_rfl) (fun e => by cases e) (fun hg => link21 ((w.take ((i + (u.length : Int))).toNat).drop (i).toNat) u _ (by have := gcall_T h (show ((decide ((0 : Int) ≤ i)) && (decide ((i + (u.length : Int)) ≤ (w.length : Int)))) = true from hg); exact this)) (fun hg => ⟨false, by have := gcall_F h (show ((decide ((0 : Int) ≤ i)) && (decide ((i + (u.length : Int)) ≤ (w.length : Int)))) = false from hg); exact this⟩) (fun ret27v h => ?_)
  have h : K (((decide ((0 : Int) ≤ i)) && (decide ((i + (u.length : Int)) ≤ (w.length : Int)))) && ret27v) := h
  refine awl_runp 2 [6] [] (ob := (True ∧ True ∧ True)) (st' := (⟨29, [(6, [], .v (.c (.p .bool (((decide ((0 : Int) ≤ i)) && (decide ((i + (u.length : Int)) ≤ (w.length : Int)))) && ret27v))))], []⟩ : St)) (by kernel_rfl) ⟨trivial, trivial, trivial⟩ ?_
  refine awl_nil ?_
  refine thenQ_n ?_
  refine aw_ret ?_
  exact retQ_r (σ := Bool) (R := (fun y => [toV1 .bool y])) (((decide ((0 : Int) ≤ i)) && (decide ((i + (u.length : Int)) ≤ (w.length : Int)))) && ret27v) (by kernel_rfl) h

-- coppicer/coppicerref.Join
def VC22 (a : (List Int)) (b : (List Int)) (K : (List Int) → Prop) : Prop :=
  (roomN (([] : List Int).length + a.length) ∧ roomN ((([] : List Int) ++ a).length + b.length) ∧ K ((([] : List Int) ++ a) ++ b))

set_option maxHeartbeats 4000000 in
theorem link22 (a : (List Int)) (b : (List Int)) (K : (List Int) → Prop) (h : VC22 a b K) : ACalls Try.prog 22 [toV1 (.sl (.int .u8)) a, toV1 (.sl (.int .u8)) b] (fun res => ∃ y, res = (fun y => [toV1 (.sl (.int .u8)) y]) y ∧ K y) := by
  refine acalls_of_aw [(.sl (.int .u8))] [4] Try.func22 rfl rfl rfl ?_
  unfold VC22 at h
  refine aw_seq ?_
  refine aw_region ?_
  refine awl_runp 1 [0, 1] [] (ob := (True ∧ True)) (st' := (⟨10, [(0, [], .v (.c (.p (.sl (.int .u8)) a))), (1, [], .v (.c (.p (.sl (.int .u8)) b)))], []⟩ : St)) (by kernel_rfl) ⟨trivial, trivial⟩ ?_
  refine awl_nil ?_
  refine thenQ_n ?_
  refine aw_seq ?_
  refine aw_region ?_
  obtain ⟨o1, o2, h⟩ := h
  refine awl_runp 6 [4] [9] (ob := (True ∧ True ∧ roomN (([] : List Int).length + a.length) ∧ True ∧ roomN ((([] : List Int) ++ a).length + b.length) ∧ True ∧ True)) (st' := (⟨10, [(4, [], .v (.c (.own 9)))], [(9, [], .arr 5 (.int .u8) ((([] : List Int) ++ a) ++ b))]⟩ : St)) (by kernel_rfl) ⟨trivial, trivial, o1, trivial, o2, trivial, trivial⟩ ?_
  refine awl_nil ?_
  refine thenQ_n ?_
  refine aw_conv [.freeze 9] (st' := (⟨10, [(4, [], .v (.c (.p (.sl (.int .u8)) ((([] : List Int) ++ a) ++ b))))], []⟩ : St)) (by kernel_rfl) ?_
  refine aw_ret ?_
  exact retQ_r (σ := (List Int)) (R := (fun y => [toV1 (.sl (.int .u8)) y])) ((([] : List Int) ++ a) ++ b) (by kernel_rfl) h

end Dec
