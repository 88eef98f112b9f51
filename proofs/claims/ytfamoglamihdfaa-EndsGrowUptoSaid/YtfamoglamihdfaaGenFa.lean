/-
  Printed by dec2.py: of each function its plain demand, and that the demand gives the contract.
-/
import Derived.Test.YtfamoglamihdfaaEndsA
import Derived.Test.YtfamoglamihdfaaDecQ
set_option linter.unusedVariables false
set_option linter.unusedSimpArgs false
set_option maxRecDepth 100000
namespace Dec
open Go Go.RowKit Go.Proofs

-- coppicer/ends.Different
def VC39_k1 (K : Int × Int → Prop) (n : Int) : Prop :=
  K (n, (0 : Int))

def VC39_l1 (K : Int × Int → Prop) (ret24v : (List Int)) (n : Int) (v26 : Int) (X1 : Int × Int → Prop) : Prop :=
  (((decide (v26 < (ret24v.length : Int))) = true → (inIdx v26 ret24v.length ∧ (InR (n - (ret24v.getD (v26).toNat (0 : Int))) ∧ (InR (v26 + (1 : Int)) ∧ X1 ((n - (ret24v.getD (v26).toNat (0 : Int))), (v26 + (1 : Int))))))) ∧ ((decide (v26 < (ret24v.length : Int))) = false → VC39_k1 K n))

def VC39 (w : (List Int)) (K : Int × Int → Prop) : Prop :=
  VC63 [w] (fun (ret10v : Int) => (((!decide (ret10v = (0 : Int))) = true → K ((0 : Int), ret10v)) ∧ ((!decide (ret10v = (0 : Int))) = false → (InR ((w.length : Int) + (1 : Int)) ∧ InR ((w.length : Int) * ((w.length : Int) + (1 : Int))) ∧ (0 ≤ ((w.length : Int) * ((w.length : Int) + (1 : Int))) ∧ 0 < (2 : Int)) ∧ VC64 w (fun (ret23v : (List Int)) => VC65 w ret23v (fun (ret24v : (List Int)) => Loop (σ := Int × Int) (fun s X => VC39_l1 K ret24v s.1 s.2 X) ((((w.length : Int) * ((w.length : Int) + (1 : Int))) / (2 : Int)), (0 : Int))))))))

set_option maxHeartbeats 4000000 in
theorem link39 (w : (List Int)) (K : Int × Int → Prop) (h : VC39 w K) : ACalls Try.prog 39 [toV1 (.sl (.int .u8)) w] (fun res => ∃ y, res = (fun y => [toV1 (.int .i64) y.1, toV1 (.int .i64) y.2]) y ∧ K y) := by
  refine acalls_of_aw [(.int .i64), (.int .i64)] [.t 2, .t 3] Try.func39 rfl rfl rfl ?_
  unfold VC39 at h
  refine aw_seq ?_
  refine aw_region ?_
  refine awl_runp 2 [0] [] (ob := (True ∧ True ∧ True)) (st' := (⟨35, [(0, [], .v (.c (.p (.sl (.int .u8)) w)))], []⟩ : St)) (by kernel_rfl) ⟨trivial, trivial, trivial⟩ ?_
  refine awl_nil ?_
  refine thenQ_n ?_
  refine aw_seq ?_
  refine aw_seq ?_
  refine aw_region ?_
  refine awl_runp 2 [0, 9] [9] (ob := (True ∧ True ∧ True)) (st' := (⟨35, [(0, [], .v (.c (.p (.sl (.int .u8)) w))), (9, [], .v (.c (.own 9)))], [(9, [], .arr 22 (.sl (.int .u8)) [w])]⟩ : St)) (by kernel_rfl) ⟨trivial, trivial, trivial⟩ ?_
  refine awl_callk (p := []) (l := [toV1 (.sl (.sl (.int .u8))) [w]]) (cl := []) true [.d (.sl (.sl (.int .u8)))] [0, 10] [] (fun (ret10v : Int) => (((!decide (ret10v = (0 : Int))) = true → K ((0 : Int), ret10v)) ∧ ((!decide (ret10v = (0 : Int))) = false → (InR ((w.length : Int) + (1 : Int)) ∧ InR ((w.length : Int) * ((w.length : Int) + (1 : Int))) ∧ (0 ≤ ((w.length : Int) * ((w.length : Int) + (1 : Int))) ∧ 0 < (2 : Int)) ∧ VC64 w (fun (ret23v : (List Int)) => VC65 w ret23v (fun (ret24v : (List Int)) => Loop (σ := Int × Int) (fun s X => VC39_l1 K ret24v s.1 s.2 X) ((((w.length : Int) * ((w.length : Int) + (1 : Int))) / (2 : Int)), (0 : Int)))))))) (fun ret10v => [toV1 (.int .i64) ret10v]) (fun ret10v => (⟨35, [(0, [], .v (.c (.p (.sl (.int .u8)) w))), (10, [], .v (.c (.p (.int .i64) ret10v)))], []⟩ : St)) (by kernel_rfl) rfl (by kernel_rfl) rfl (by kernel_rfl) Try.call63 (by kernel_rfl) (fun ret10v => by kernel_rfl) (fun _ _ => rfl) (fun hg => link63 [w] _ h) (fun hg => noF hg) (fun ret10v h => ?_)
  have h : (((!decide (ret10v = (0 : Int))) = true → K ((0 : Int), ret10v)) ∧ ((!decide (ret10v = (0 : Int))) = false → (InR ((w.length : Int) + (1 : Int)) ∧ InR ((w.length : Int) * ((w.length : Int) + (1 : Int))) ∧ (0 ≤ ((w.length : Int) * ((w.length : Int) + (1 : Int))) ∧ 0 < (2 : Int)) ∧ VC64 w (fun (ret23v : (List Int)) => VC65 w ret23v (fun (ret24v : (List Int)) => Loop (σ := Int × Int) (fun s X => VC39_l1 K ret24v s.1 s.2 X) ((((w.length : Int) * ((w.length : Int) + (1 : Int))) / (2 : Int)), (0 : Int))))))) := h
  refine awl_runp 1 [0, 4] [] (ob := (True ∧ True)) (st' := (⟨35, [(0, [], .v (.c (.p (.sl (.int .u8)) w))), (4, [], .v (.c (.p (.int .i64) ret10v)))], []⟩ : St)) (by kernel_rfl) ⟨trivial, trivial⟩ ?_
  refine awl_nil ?_
  refine thenQ_n ?_
  refine aw_seq ?_
  refine aw_region ?_
  refine awl_runp 2 [0, 4, 12] [] (ob := (True ∧ True ∧ True)) (st' := (⟨35, [(0, [], .v (.c (.p (.sl (.int .u8)) w))), (4, [], .v (.c (.p (.int .i64) ret10v))), (12, [], .v (.c (.p .bool (!decide (ret10v = (0 : Int))))))], []⟩ : St)) (by kernel_rfl) ⟨trivial, trivial, trivial⟩ ?_
  refine awl_nil ?_
  refine thenQ_n ?_
  refine aw_cond (b := (!decide (ret10v = (0 : Int)))) (by kernel_rfl) (fun hb => ?_) (fun hb => ?_)
  · have h := h.1 hb
    refine aw_seq ?_
    refine aw_region ?_
    refine awl_runp 3 [2, 3] [] (ob := (True ∧ True ∧ True ∧ True)) (st' := (⟨35, [(2, [], .v (.c (.p (.int .i64) (0 : Int)))), (3, [], .v (.c (.p (.int .i64) ret10v)))], []⟩ : St)) (by kernel_rfl) ⟨trivial, trivial, trivial, trivial⟩ ?_
    refine awl_nil ?_
    refine thenQ_n ?_
    refine aw_ret ?_
    refine thenQ_r ?_
    exact retQ_r (σ := Int × Int) (R := (fun y => [toV1 (.int .i64) y.1, toV1 (.int .i64) y.2])) (ob := (True ∧ True ∧ True)) ((0 : Int), ret10v) (by kernel_rfl) ⟨trivial, trivial, trivial⟩ h
  · have h := h.2 hb
    refine aw_skip ?_
    refine thenQ_n ?_
    refine aw_seq ?_
    refine aw_region ?_
    obtain ⟨o1, o2, o3, h⟩ := h
    refine awl_runp 8 [0, 5] [] (ob := (True ∧ True ∧ True ∧ True ∧ InR ((w.length : Int) + (1 : Int)) ∧ InR ((w.length : Int) * ((w.length : Int) + (1 : Int))) ∧ (0 ≤ ((w.length : Int) * ((w.length : Int) + (1 : Int))) ∧ 0 < (2 : Int)) ∧ True ∧ True)) (st' := (⟨35, [(0, [], .v (.c (.p (.sl (.int .u8)) w))), (5, [], .v (.c (.p (.int .i64) (((w.length : Int) * ((w.length : Int) + (1 : Int))) / (2 : Int)))))], []⟩ : St)) (by kernel_rfl) ⟨trivial, trivial, trivial, trivial, o1, o2, o3, trivial, trivial⟩ ?_
    refine awl_nil ?_
    refine thenQ_n ?_
    refine aw_seq ?_
    refine aw_seq ?_
    refine aw_region ?_
    refine awl_runp 2 [5, 21, 22] [] (ob := (True ∧ True ∧ True)) (st' := (⟨35, [(5, [], .v (.c (.p (.int .i64) (((w.length : Int) * ((w.length : Int) + (1 : Int))) / (2 : Int))))), (21, [], .v (.c (.p (.sl (.int .u8)) w))), (22, [], .v (.c (.p (.sl (.int .u8)) w)))], []⟩ : St)) (by kernel_rfl) ⟨trivial, trivial, trivial⟩ ?_
    refine awl_callk (p := []) (l := [toV1 (.sl (.int .u8)) w]) (cl := []) false [.d (.sl (.int .u8))] [5, 21, 23] [] (fun (ret23v : (List Int)) => VC65 w ret23v (fun (ret24v : (List Int)) => Loop (σ := Int × Int) (fun s X => VC39_l1 K ret24v s.1 s.2 X) ((((w.length : Int) * ((w.length : Int) + (1 : Int))) / (2 : Int)), (0 : Int)))) (fun ret23v => [toV1 (.sl (.int .i64)) ret23v]) (fun ret23v => (⟨35, [(5, [], .v (.c (.p (.int .i64) (((w.length : Int) * ((w.length : Int) + (1 : Int))) / (2 : Int))))), (21, [], .v (.c (.p (.sl (.int .u8)) w))), (23, [], .v (.c (.p (.sl (.int .i64)) ret23v)))], []⟩ : St)) (by kernel_rfl) rfl (by kernel_rfl) rfl (by kernel_rfl) Try.call64 (by kernel_rfl) (fun ret23v => by kernel_rfl) (fun e => by cases e) (fun hg => link64 w _ h) (fun hg => noF hg) (fun ret23v h => ?_)
    have h : VC65 w ret23v (fun (ret24v : (List Int)) => Loop (σ := Int × Int) (fun s X => VC39_l1 K ret24v s.1 s.2 X) ((((w.length : Int) * ((w.length : Int) + (1 : Int))) / (2 : Int)), (0 : Int))) := h
    refine awl_callk (p := []) (l := [toV1 (.sl (.int .u8)) w, toV1 (.sl (.int .i64)) ret23v]) (cl := []) false [.d (.sl (.int .u8)), .d (.sl (.int .i64))] [5, 24] [] (fun (ret24v : (List Int)) => Loop (σ := Int × Int) (fun s X => VC39_l1 K ret24v s.1 s.2 X) ((((w.length : Int) * ((w.length : Int) + (1 : Int))) / (2 : Int)), (0 : Int))) (fun ret24v => [toV1 (.sl (.int .i64)) ret24v]) (fun ret24v => (⟨35, [(5, [], .v (.c (.p (.int .i64) (((w.length : Int) * ((w.length : Int) + (1 : Int))) / (2 : Int))))), (24, [], .v (.c (.p (.sl (.int .i64)) ret24v)))], []⟩ : St)) (by kernel_rfl) rfl (by kernel_rfl) rfl (by kernel_rfl) Try.call65 (by kernel_rfl) (fun ret24v => by kernel_rfl) (fun e => by cases e) (fun hg => link65 w ret23v _ h) (fun hg => noF hg) (fun ret24v h => ?_)
    have h : Loop (σ := Int × Int) (fun s X => VC39_l1 K ret24v s.1 s.2 X) ((((w.length : Int) * ((w.length : Int) + (1 : Int))) / (2 : Int)), (0 : Int)) := h
    refine awl_runp 2 [5, 24, 25, 26] [] (ob := (True ∧ True ∧ True)) (st' := (⟨35, [(5, [], .v (.c (.p (.int .i64) (((w.length : Int) * ((w.length : Int) + (1 : Int))) / (2 : Int))))), (24, [], .v (.c (.p (.sl (.int .i64)) ret24v))), (25, [], .v (.c (.p (.int .i64) (ret24v.length : Int)))), (26, [], .v (.c (.p (.int .i64) (0 : Int))))], []⟩ : St)) (by kernel_rfl) ⟨trivial, trivial, trivial⟩ ?_
    refine awl_nil ?_
    refine thenQ_n ?_
    refine withJoin (σ := Int) (fun s => (⟨35, [(5, [], .v (.c (.p (.int .i64) s)))], []⟩ : St)) (fun s => VC39_k1 K s) (fun n h => ?_) (fun rest1 => ?_)
    · have h : VC39_k1 K n := h
      unfold VC39_k1 at h
      refine thenQ_n ?_
      refine aw_seq ?_
      refine aw_region ?_
      refine awl_runp 3 [2, 3] [] (ob := (True ∧ True ∧ True ∧ True)) (st' := (⟨35, [(2, [], .v (.c (.p (.int .i64) n))), (3, [], .v (.c (.p (.int .i64) (0 : Int))))], []⟩ : St)) (by kernel_rfl) ⟨trivial, trivial, trivial, trivial⟩ ?_
      refine awl_nil ?_
      refine thenQ_n ?_
      refine aw_ret ?_
      exact retQ_r (σ := Int × Int) (R := (fun y => [toV1 (.int .i64) y.1, toV1 (.int .i64) y.2])) (ob := (True ∧ True ∧ True)) (n, (0 : Int)) (by kernel_rfl) ⟨trivial, trivial, trivial⟩ h
    · refine aw_block ?_
      refine aw_loop (σ := Int × Int) (fun s => (⟨35, [(5, [], .v (.c (.p (.int .i64) s.1))), (24, [], .v (.c (.p (.sl (.int .i64)) ret24v))), (25, [], .v (.c (.p (.int .i64) (ret24v.length : Int)))), (26, [], .v (.c (.p (.int .i64) s.2)))], []⟩ : St)) (fun s X => VC39_l1 K ret24v s.1 s.2 X) (s0 := ((((w.length : Int) * ((w.length : Int) + (1 : Int))) / (2 : Int)), (0 : Int))) (fun s X1 h => ?_) h
      obtain ⟨n, v26⟩ := s
      have h : VC39_l1 K ret24v n v26 X1 := h
      unfold VC39_l1 at h
      refine aw_seq ?_
      refine aw_region ?_
      refine awl_runp 1 [5, 24, 25, 26, 27] [] (ob := (True ∧ True)) (st' := (⟨35, [(5, [], .v (.c (.p (.int .i64) n))), (24, [], .v (.c (.p (.sl (.int .i64)) ret24v))), (25, [], .v (.c (.p (.int .i64) (ret24v.length : Int)))), (26, [], .v (.c (.p (.int .i64) v26))), (27, [], .v (.c (.p .bool (decide (v26 < (ret24v.length : Int))))))], []⟩ : St)) (by kernel_rfl) ⟨trivial, trivial⟩ ?_
      refine awl_nil ?_
      refine thenQ_n ?_
      refine aw_seq ?_
      refine aw_cond (b := (decide (v26 < (ret24v.length : Int)))) (by kernel_rfl) (fun hb => ?_) (fun hb => ?_)
      · have h := h.1 hb
        refine aw_skip ?_
        refine thenQ_n ?_
        refine aw_seq ?_
        refine aw_block ?_
        refine aw_seq ?_
        refine aw_region ?_
        obtain ⟨o1, h⟩ := h
        refine awl_runp 3 [5, 7, 24, 25, 26] [] (ob := (inIdx v26 ret24v.length ∧ True ∧ True ∧ True)) (st' := (⟨35, [(5, [], .v (.c (.p (.int .i64) n))), (7, [], .v (.c (.p (.int .i64) (ret24v.getD (v26).toNat (0 : Int))))), (24, [], .v (.c (.p (.sl (.int .i64)) ret24v))), (25, [], .v (.c (.p (.int .i64) (ret24v.length : Int)))), (26, [], .v (.c (.p (.int .i64) v26)))], []⟩ : St)) (by kernel_rfl) ⟨o1, trivial, trivial, trivial⟩ ?_
        refine awl_nil ?_
        refine thenQ_n ?_
        refine aw_region ?_
        obtain ⟨o1, h⟩ := h
        refine awl_runp 4 [5, 24, 25, 26] [] (ob := (True ∧ True ∧ InR (n - (ret24v.getD (v26).toNat (0 : Int))) ∧ True ∧ True)) (st' := (⟨35, [(5, [], .v (.c (.p (.int .i64) (n - (ret24v.getD (v26).toNat (0 : Int)))))), (24, [], .v (.c (.p (.sl (.int .i64)) ret24v))), (25, [], .v (.c (.p (.int .i64) (ret24v.length : Int)))), (26, [], .v (.c (.p (.int .i64) v26)))], []⟩ : St)) (by kernel_rfl) ⟨trivial, trivial, o1, trivial, trivial⟩ ?_
        refine awl_nil ?_
        refine blockQ_n ?_
        refine thenQ_n ?_
        refine aw_region ?_
        obtain ⟨o1, h⟩ := h
        refine awl_runp 2 [5, 24, 25, 26] [] (ob := (InR (v26 + (1 : Int)) ∧ True ∧ True)) (st' := (⟨35, [(5, [], .v (.c (.p (.int .i64) (n - (ret24v.getD (v26).toNat (0 : Int)))))), (24, [], .v (.c (.p (.sl (.int .i64)) ret24v))), (25, [], .v (.c (.p (.int .i64) (ret24v.length : Int)))), (26, [], .v (.c (.p (.int .i64) (v26 + (1 : Int)))))], []⟩ : St)) (by kernel_rfl) ⟨o1, trivial, trivial⟩ ?_
        refine awl_nil ?_
        exact thenQ_n ⟨((n - (ret24v.getD (v26).toNat (0 : Int))), (v26 + (1 : Int))), rfl, h⟩
      · have h := h.2 hb
        refine aw_conv [.prune [5] []] (st' := (⟨35, [(5, [], .v (.c (.p (.int .i64) n)))], []⟩ : St)) (by kernel_rfl) ?_
        refine aw_exit ?_
        refine thenQ_x ?_
        refine thenQ_x ?_
        refine blockQ_hit ?_
        exact rest1 n h

-- bytes.Equal
def VC79 (a b : List Int) (K : Bool → Prop) : Prop := K (decide (a = b))

theorem link79 (a b : List Int) (K : Bool → Prop) (h : VC79 a b K) : ACalls Try.prog 79 [toV1 (.sl (.int .u8)) a, toV1 (.sl (.int .u8)) b] (fun res => ∃ y, res = (fun y => [toV1 .bool y]) y ∧ K y) := by
  refine acalls_of_aw [.bool] [.t 4] Try.func79 rfl rfl rfl ?_
  refine aw_seq ?_
  refine aw_region ?_
  refine awl_runp 1 [0, 1] [] (ob := (True ∧ True)) (st' := (⟨10, [(0, [], .v (.c (.p (.sl (.int .u8)) a))), (1, [], .v (.c (.p (.sl (.int .u8)) b)))], []⟩ : St)) (by kernel_rfl) ⟨trivial, trivial⟩ ?_
  refine awl_nil ?_
  refine thenQ_n ?_
  refine aw_seq ?_
  refine aw_region ?_
  intro w0 S0 G a0 w hs
  have ha : Enc w G.S (.sl (.int .u8)) a [a0.eval (.tmp 0)] := hs.val_ (p := []) (x := .tmp 0) holds_nil rfl
  have hb : Enc w G.S (.sl (.int .u8)) b [a0.eval (.tmp 1)] := hs.val_ (p := []) (x := .tmp 1) holds_nil rfl
  have hsz : a0.tmps.size = 10 := hs.size
  have e1 := enc_string (P := Try.prog) ha Try.underlying22 Try.underlying5 Try.underlying9
  have e2 := enc_string (P := Try.prog) hb Try.underlying22 Try.underlying5 Try.underlying9
  refine wpl_val (a0.eval (.tmp 0)) rfl rfl (by rfl) ?_
  refine wpl_val (.string (strOfNums a)) (d := 6) rfl rfl ?_ ?_
  · unfold execOp
    simp only []
    rw [eval_hit (by simp [hsz])]
    simp only [Sem.run_bind, Sem.run_map, e1, Result.andThen_ok, Sem.run_pure]
  refine wpl_val (a0.eval (.tmp 1)) (d := 7) rfl rfl ?_ ?_
  · unfold execOp
    simp only []
    rw [eval_miss (by decide), eval_miss (by decide)]
    rfl
  refine wpl_val (.string (strOfNums b)) (d := 8) rfl rfl ?_ ?_
  · unfold execOp
    simp only []
    rw [eval_hit (by simp [Act.put, hsz])]
    simp only [Sem.run_bind, Sem.run_map, e2, Result.andThen_ok, Sem.run_pure]
  refine wpl_val (.bool (decide (a = b))) (d := 9) rfl rfl ?_ ?_
  · unfold execOp
    simp only []
    rw [eval_hit (by simp [Act.put, hsz]), eval_miss (by decide), eval_miss (by decide), eval_hit (by simp [Act.put, hsz])]
    simp only [binOp_string_eql, Sem.run_bind, Sem.run_map, Result.andThen_ok, Sem.run_pure, strOfNums_beq (enc_bytes ha) (enc_bytes hb)]
    simp [eqGuard, run_underlying Try.underlying9]
  refine wpl_val (.bool (decide (a = b))) (d := 4) rfl rfl ?_ ?_
  · unfold execOp
    simp only []
    rw [eval_hit (by simp [Act.put, hsz])]
    rfl
  have s1 := hs.put (i := 5) (p := []) (x := .v (.c .any)) (v := a0.eval (.tmp 0)) (show (_ : Nat) < 10 by decide) rfl (fun _ => trivial) (fun hn => absurd holds_nil hn)
  have s2 := s1.put (i := 6) (p := []) (x := .v (.c .any)) (v := .string (strOfNums a)) (show (_ : Nat) < 10 by decide) rfl (fun _ => trivial) (fun hn => absurd holds_nil hn)
  have s3 := s2.put (i := 7) (p := []) (x := .v (.c .any)) (v := a0.eval (.tmp 1)) (show (_ : Nat) < 10 by decide) rfl (fun _ => trivial) (fun hn => absurd holds_nil hn)
  have s4 := s3.put (i := 8) (p := []) (x := .v (.c .any)) (v := .string (strOfNums b)) (show (_ : Nat) < 10 by decide) rfl (fun _ => trivial) (fun hn => absurd holds_nil hn)
  have s5 := s4.put (i := 9) (p := []) (x := .v (.c .any)) (v := .bool (decide (a = b))) (show (_ : Nat) < 10 by decide) rfl (fun _ => trivial) (fun hn => absurd holds_nil hn)
  have s6 := s5.put (i := 4) (p := []) (x := .v (.c (.p .bool (decide (a = b))))) (v := .bool (decide (a = b))) (show (_ : Nat) < 10 by decide) rfl (fun _ => rfl) (fun hn => absurd holds_nil hn)
  refine ⟨G, _, s6, thenQ_n (aw_ret ?_)⟩
  exact retQ_r (σ := Bool) (R := (fun y => [toV1 .bool y])) (ob := (True ∧ True)) (decide (a = b)) (by rfl) ⟨trivial, trivial⟩ h


-- bytes.HasPrefix
def VC66 (sv : (List Int)) (prefixv : (List Int)) (K : Bool → Prop) : Prop :=
  (((decide ((prefixv.length : Int) ≤ (sv.length : Int))) = true → (0 ≤ (prefixv.length : Int) ∧ (prefixv.length : Int) ≤ (sv.length : Int))) ∧ gcall (α := Bool) (decide ((prefixv.length : Int) ≤ (sv.length : Int))) (VC79 (sv.take ((prefixv.length : Int)).toNat) prefixv) false (fun (ret16v : Bool) => K ((decide ((prefixv.length : Int) ≤ (sv.length : Int))) && ret16v)))

set_option maxHeartbeats 4000000 in
theorem link66 (sv : (List Int)) (prefixv : (List Int)) (K : Bool → Prop) (h : VC66 sv prefixv K) : ACalls Try.prog 66 [toV1 (.sl (.int .u8)) sv, toV1 (.sl (.int .u8)) prefixv] (fun res => ∃ y, res = (fun y => [toV1 .bool y]) y ∧ K y) := by
  refine acalls_of_aw [.bool] [.t 4] Try.func66 rfl rfl rfl ?_
  unfold VC66 at h
  refine aw_seq ?_
  refine aw_region ?_
  refine awl_runp 1 [0, 1] [] (ob := (True ∧ True)) (st' := (⟨18, [(0, [], .v (.c (.p (.sl (.int .u8)) sv))), (1, [], .v (.c (.p (.sl (.int .u8)) prefixv)))], []⟩ : St)) (by kernel_rfl) ⟨trivial, trivial⟩ ?_
  refine awl_nil ?_
  refine thenQ_n ?_
  refine aw_seq ?_
  refine aw_region ?_
  obtain ⟨o1, h⟩ := h
  refine awl_runp 11 [10, 14, 15] [] (ob := (True ∧ True ∧ True ∧ True ∧ True ∧ True ∧ ((decide ((prefixv.length : Int) ≤ (sv.length : Int))) = true → True) ∧ ((decide ((prefixv.length : Int) ≤ (sv.length : Int))) = true → True) ∧ ((decide ((prefixv.length : Int) ≤ (sv.length : Int))) = true → True) ∧ ((decide ((prefixv.length : Int) ≤ (sv.length : Int))) = true → (0 ≤ (prefixv.length : Int) ∧ (prefixv.length : Int) ≤ (sv.length : Int))) ∧ ((decide ((prefixv.length : Int) ≤ (sv.length : Int))) = true → True) ∧ True)) (st' := (⟨18, [(10, [], .v (.c (.p .bool (decide ((prefixv.length : Int) ≤ (sv.length : Int)))))), (14, [(10, true)], .v (.c (.p (.sl (.int .u8)) (sv.take ((prefixv.length : Int)).toNat)))), (15, [(10, true)], .v (.c (.p (.sl (.int .u8)) prefixv)))], []⟩ : St)) (by kernel_rfl) ⟨trivial, trivial, trivial, trivial, trivial, trivial, (fun _ => trivial), (fun _ => trivial), (fun _ => trivial), o1, (fun _ => trivial), trivial⟩ ?_
  refine awl_callk (p := [(10, true)]) (l := [toV1 (.sl (.int .u8)) (sv.take ((prefixv.length : Int)).toNat), toV1 (.sl (.int .u8)) prefixv]) (cl := []) false [.d (.sl (.int .u8)), .d (.sl (.int .u8))] [10, 16] [] (fun (ret16v : Bool) => K ((decide ((prefixv.length : Int) ≤ (sv.length : Int))) && ret16v)) (fun ret16v => [toV1 .bool ret16v]) (fun ret16v => (⟨18, [(10, [], .v (.c (.p .bool (decide ((prefixv.length : Int) ≤ (sv.length : Int)))))), (16, [(10, true)], .v (.c (.p .bool ret16v)))], []⟩ : St)) (by kernel_rfl) rfl (by kernel_rfl) rfl (by kernel_rfl) Try.call79 (by kernel_rfl) (fun ret16v => by kernel_rfl) (fun e => by cases e) (fun hg => link79 (sv.take ((prefixv.length : Int)).toNat) prefixv _ (by have := gcall_T h (show (decide ((prefixv.length : Int) ≤ (sv.length : Int))) = true from hg); exact this)) (fun hg => ⟨false, by have := gcall_F h (show (decide ((prefixv.length : Int) ≤ (sv.length : Int))) = false from hg); exact this⟩) (fun ret16v h => ?_)
  have h : K ((decide ((prefixv.length : Int) ≤ (sv.length : Int))) && ret16v) := h
  refine awl_runp 2 [4] [] (ob := (True ∧ True ∧ True)) (st' := (⟨18, [(4, [], .v (.c (.p .bool ((decide ((prefixv.length : Int) ≤ (sv.length : Int))) && ret16v))))], []⟩ : St)) (by kernel_rfl) ⟨trivial, trivial, trivial⟩ ?_
  refine awl_nil ?_
  refine thenQ_n ?_
  refine aw_ret ?_
  exact retQ_r (σ := Bool) (R := (fun y => [toV1 .bool y])) (ob := (True ∧ True)) ((decide ((prefixv.length : Int) ≤ (sv.length : Int))) && ret16v) (by kernel_rfl) ⟨trivial, trivial⟩ h

-- coppicer/ends.Count
def VC40_k1 (K : Int × Int → Prop) (n : Int) : Prop :=
  K (n, (0 : Int))

def VC40_k2 (i : Int) (X1 : Int × Int → Prop) (n2 : Int) : Prop :=
  (InR (i + (1 : Int)) ∧ X1 (n2, (i + (1 : Int))))

def VC40_l1 (w : (List Int)) (u : (List Int)) (K : Int × Int → Prop) (n : Int) (i : Int) (X1 : Int × Int → Prop) : Prop :=
  (InR (i + (u.length : Int)) ∧ (((decide ((i + (u.length : Int)) ≤ (w.length : Int))) = true → ((0 ≤ i ∧ i ≤ (w.length : Int)) ∧ VC66 (w.drop (i).toNat) u (fun (ret29v : Bool) => ((ret29v = true → (InR (n + (1 : Int)) ∧ VC40_k2 i X1 (n + (1 : Int)))) ∧ (ret29v = false → VC40_k2 i X1 n))))) ∧ ((decide ((i + (u.length : Int)) ≤ (w.length : Int))) = false → VC40_k1 K n)))

def VC40 (w : (List Int)) (u : (List Int)) (K : Int × Int → Prop) : Prop :=
  VC63 [w, u] (fun (ret12v : Int) => (((!decide (ret12v = (0 : Int))) = true → K ((0 : Int), ret12v)) ∧ ((!decide (ret12v = (0 : Int))) = false → Loop (σ := Int × Int) (fun s X => VC40_l1 w u K s.1 s.2 X) ((0 : Int), (0 : Int)))))

set_option maxHeartbeats 4000000 in
theorem link40 (w : (List Int)) (u : (List Int)) (K : Int × Int → Prop) (h : VC40 w u K) : ACalls Try.prog 40 [toV1 (.sl (.int .u8)) w, toV1 (.sl (.int .u8)) u] (fun res => ∃ y, res = (fun y => [toV1 (.int .i64) y.1, toV1 (.int .i64) y.2]) y ∧ K y) := by
  refine acalls_of_aw [(.int .i64), (.int .i64)] [.t 4, .t 5] Try.func40 rfl rfl rfl ?_
  unfold VC40 at h
  refine aw_seq ?_
  refine aw_region ?_
  refine awl_runp 2 [0, 1] [] (ob := (True ∧ True ∧ True)) (st' := (⟨33, [(0, [], .v (.c (.p (.sl (.int .u8)) w))), (1, [], .v (.c (.p (.sl (.int .u8)) u)))], []⟩ : St)) (by kernel_rfl) ⟨trivial, trivial, trivial⟩ ?_
  refine awl_nil ?_
  refine thenQ_n ?_
  refine aw_seq ?_
  refine aw_seq ?_
  refine aw_region ?_
  refine awl_runp 3 [0, 1, 11] [11] (ob := (True ∧ True ∧ True ∧ True)) (st' := (⟨33, [(0, [], .v (.c (.p (.sl (.int .u8)) w))), (1, [], .v (.c (.p (.sl (.int .u8)) u))), (11, [], .v (.c (.own 11)))], [(11, [], .arr 22 (.sl (.int .u8)) [w, u])]⟩ : St)) (by kernel_rfl) ⟨trivial, trivial, trivial, trivial⟩ ?_
  refine awl_callk (p := []) (l := [toV1 (.sl (.sl (.int .u8))) [w, u]]) (cl := []) true [.d (.sl (.sl (.int .u8)))] [0, 1, 12] [] (fun (ret12v : Int) => (((!decide (ret12v = (0 : Int))) = true → K ((0 : Int), ret12v)) ∧ ((!decide (ret12v = (0 : Int))) = false → Loop (σ := Int × Int) (fun s X => VC40_l1 w u K s.1 s.2 X) ((0 : Int), (0 : Int))))) (fun ret12v => [toV1 (.int .i64) ret12v]) (fun ret12v => (⟨33, [(0, [], .v (.c (.p (.sl (.int .u8)) w))), (1, [], .v (.c (.p (.sl (.int .u8)) u))), (12, [], .v (.c (.p (.int .i64) ret12v)))], []⟩ : St)) (by kernel_rfl) rfl (by kernel_rfl) rfl (by kernel_rfl) Try.call63 (by kernel_rfl) (fun ret12v => by kernel_rfl) (fun _ _ => rfl) (fun hg => link63 [w, u] _ h) (fun hg => noF hg) (fun ret12v h => ?_)
  have h : (((!decide (ret12v = (0 : Int))) = true → K ((0 : Int), ret12v)) ∧ ((!decide (ret12v = (0 : Int))) = false → Loop (σ := Int × Int) (fun s X => VC40_l1 w u K s.1 s.2 X) ((0 : Int), (0 : Int)))) := h
  refine awl_runp 1 [0, 1, 6] [] (ob := (True ∧ True)) (st' := (⟨33, [(0, [], .v (.c (.p (.sl (.int .u8)) w))), (1, [], .v (.c (.p (.sl (.int .u8)) u))), (6, [], .v (.c (.p (.int .i64) ret12v)))], []⟩ : St)) (by kernel_rfl) ⟨trivial, trivial⟩ ?_
  refine awl_nil ?_
  refine thenQ_n ?_
  refine aw_seq ?_
  refine aw_region ?_
  refine awl_runp 2 [0, 1, 6, 14] [] (ob := (True ∧ True ∧ True)) (st' := (⟨33, [(0, [], .v (.c (.p (.sl (.int .u8)) w))), (1, [], .v (.c (.p (.sl (.int .u8)) u))), (6, [], .v (.c (.p (.int .i64) ret12v))), (14, [], .v (.c (.p .bool (!decide (ret12v = (0 : Int))))))], []⟩ : St)) (by kernel_rfl) ⟨trivial, trivial, trivial⟩ ?_
  refine awl_nil ?_
  refine thenQ_n ?_
  refine aw_cond (b := (!decide (ret12v = (0 : Int)))) (by kernel_rfl) (fun hb => ?_) (fun hb => ?_)
  · have h := h.1 hb
    refine aw_seq ?_
    refine aw_region ?_
    refine awl_runp 3 [4, 5] [] (ob := (True ∧ True ∧ True ∧ True)) (st' := (⟨33, [(4, [], .v (.c (.p (.int .i64) (0 : Int)))), (5, [], .v (.c (.p (.int .i64) ret12v)))], []⟩ : St)) (by kernel_rfl) ⟨trivial, trivial, trivial, trivial⟩ ?_
    refine awl_nil ?_
    refine thenQ_n ?_
    refine aw_ret ?_
    refine thenQ_r ?_
    exact retQ_r (σ := Int × Int) (R := (fun y => [toV1 (.int .i64) y.1, toV1 (.int .i64) y.2])) (ob := (True ∧ True ∧ True)) ((0 : Int), ret12v) (by kernel_rfl) ⟨trivial, trivial, trivial⟩ h
  · have h := h.2 hb
    refine aw_skip ?_
    refine thenQ_n ?_
    refine aw_seq ?_
    refine aw_region ?_
    refine awl_runp 1 [0, 1, 7] [] (ob := (True ∧ True)) (st' := (⟨33, [(0, [], .v (.c (.p (.sl (.int .u8)) w))), (1, [], .v (.c (.p (.sl (.int .u8)) u))), (7, [], .v (.c (.p (.int .i64) (0 : Int))))], []⟩ : St)) (by kernel_rfl) ⟨trivial, trivial⟩ ?_
    refine awl_nil ?_
    refine thenQ_n ?_
    refine aw_seq ?_
    refine aw_seq ?_
    refine aw_region ?_
    refine awl_runp 1 [0, 1, 7, 8] [] (ob := (True ∧ True)) (st' := (⟨33, [(0, [], .v (.c (.p (.sl (.int .u8)) w))), (1, [], .v (.c (.p (.sl (.int .u8)) u))), (7, [], .v (.c (.p (.int .i64) (0 : Int)))), (8, [], .v (.c (.p (.int .i64) (0 : Int))))], []⟩ : St)) (by kernel_rfl) ⟨trivial, trivial⟩ ?_
    refine awl_nil ?_
    refine thenQ_n ?_
    refine withJoin (σ := Int) (fun s => (⟨33, [(7, [], .v (.c (.p (.int .i64) s)))], []⟩ : St)) (fun s => VC40_k1 K s) (fun n h => ?_) (fun rest1 => ?_)
    · have h : VC40_k1 K n := h
      unfold VC40_k1 at h
      refine thenQ_n ?_
      refine aw_seq ?_
      refine aw_region ?_
      refine awl_runp 3 [4, 5] [] (ob := (True ∧ True ∧ True ∧ True)) (st' := (⟨33, [(4, [], .v (.c (.p (.int .i64) n))), (5, [], .v (.c (.p (.int .i64) (0 : Int))))], []⟩ : St)) (by kernel_rfl) ⟨trivial, trivial, trivial, trivial⟩ ?_
      refine awl_nil ?_
      refine thenQ_n ?_
      refine aw_ret ?_
      exact retQ_r (σ := Int × Int) (R := (fun y => [toV1 (.int .i64) y.1, toV1 (.int .i64) y.2])) (ob := (True ∧ True ∧ True)) (n, (0 : Int)) (by kernel_rfl) ⟨trivial, trivial, trivial⟩ h
    · refine aw_block ?_
      refine aw_loop (σ := Int × Int) (fun s => (⟨33, [(0, [], .v (.c (.p (.sl (.int .u8)) w))), (1, [], .v (.c (.p (.sl (.int .u8)) u))), (7, [], .v (.c (.p (.int .i64) s.1))), (8, [], .v (.c (.p (.int .i64) s.2)))], []⟩ : St)) (fun s X => VC40_l1 w u K s.1 s.2 X) (s0 := ((0 : Int), (0 : Int))) (fun s X1 h => ?_) h
      obtain ⟨n, i⟩ := s
      have h : VC40_l1 w u K n i X1 := h
      unfold VC40_l1 at h
      refine aw_seq ?_
      refine aw_seq ?_
      refine aw_region ?_
      obtain ⟨o1, h⟩ := h
      refine awl_runp 7 [0, 1, 7, 8, 22] [] (ob := (True ∧ True ∧ True ∧ InR (i + (u.length : Int)) ∧ True ∧ True ∧ True ∧ True)) (st' := (⟨33, [(0, [], .v (.c (.p (.sl (.int .u8)) w))), (1, [], .v (.c (.p (.sl (.int .u8)) u))), (7, [], .v (.c (.p (.int .i64) n))), (8, [], .v (.c (.p (.int .i64) i))), (22, [], .v (.c (.p .bool (decide ((i + (u.length : Int)) ≤ (w.length : Int))))))], []⟩ : St)) (by kernel_rfl) ⟨trivial, trivial, trivial, o1, trivial, trivial, trivial, trivial⟩ ?_
      refine awl_nil ?_
      refine thenQ_n ?_
      refine aw_cond (b := (decide ((i + (u.length : Int)) ≤ (w.length : Int)))) (by kernel_rfl) (fun hb => ?_) (fun hb => ?_)
      · have h := h.1 hb
        refine aw_skip ?_
        refine thenQ_n ?_
        refine aw_seq ?_
        refine aw_block ?_
        refine aw_seq ?_
        refine aw_region ?_
        obtain ⟨o1, h⟩ := h
        refine awl_runp 4 [0, 1, 7, 8, 27, 28] [] (ob := (True ∧ True ∧ (0 ≤ i ∧ i ≤ (w.length : Int)) ∧ True ∧ True)) (st' := (⟨33, [(0, [], .v (.c (.p (.sl (.int .u8)) w))), (1, [], .v (.c (.p (.sl (.int .u8)) u))), (7, [], .v (.c (.p (.int .i64) n))), (8, [], .v (.c (.p (.int .i64) i))), (27, [], .v (.c (.p (.sl (.int .u8)) (w.drop (i).toNat)))), (28, [], .v (.c (.p (.sl (.int .u8)) u)))], []⟩ : St)) (by kernel_rfl) ⟨trivial, trivial, o1, trivial, trivial⟩ ?_
        refine awl_callk (p := []) (l := [toV1 (.sl (.int .u8)) (w.drop (i).toNat), toV1 (.sl (.int .u8)) u]) (cl := []) false [.d (.sl (.int .u8)), .d (.sl (.int .u8))] [0, 1, 7, 8, 29] [] (fun (ret29v : Bool) => ((ret29v = true → (InR (n + (1 : Int)) ∧ VC40_k2 i X1 (n + (1 : Int)))) ∧ (ret29v = false → VC40_k2 i X1 n))) (fun ret29v => [toV1 .bool ret29v]) (fun ret29v => (⟨33, [(0, [], .v (.c (.p (.sl (.int .u8)) w))), (1, [], .v (.c (.p (.sl (.int .u8)) u))), (7, [], .v (.c (.p (.int .i64) n))), (8, [], .v (.c (.p (.int .i64) i))), (29, [], .v (.c (.p .bool ret29v)))], []⟩ : St)) (by kernel_rfl) rfl (by kernel_rfl) rfl (by kernel_rfl) Try.call66 (by kernel_rfl) (fun ret29v => by kernel_rfl) (fun e => by cases e) (fun hg => link66 (w.drop (i).toNat) u _ h) (fun hg => noF hg) (fun ret29v h => ?_)
        have h : ((ret29v = true → (InR (n + (1 : Int)) ∧ VC40_k2 i X1 (n + (1 : Int)))) ∧ (ret29v = false → VC40_k2 i X1 n)) := h
        refine awl_nil ?_
        refine thenQ_n ?_
        refine withJoin (σ := Int) (fun s => (⟨33, [(0, [], .v (.c (.p (.sl (.int .u8)) w))), (1, [], .v (.c (.p (.sl (.int .u8)) u))), (7, [], .v (.c (.p (.int .i64) s))), (8, [], .v (.c (.p (.int .i64) i)))], []⟩ : St)) (fun s => VC40_k2 i X1 s) (fun n2 h => ?_) (fun rest2 => ?_)
        · have h : VC40_k2 i X1 n2 := h
          unfold VC40_k2 at h
          refine blockQ_n ?_
          refine thenQ_n ?_
          refine aw_region ?_
          obtain ⟨o1, h⟩ := h
          refine awl_runp 3 [0, 1, 7, 8] [] (ob := (True ∧ InR (i + (1 : Int)) ∧ True ∧ True)) (st' := (⟨33, [(0, [], .v (.c (.p (.sl (.int .u8)) w))), (1, [], .v (.c (.p (.sl (.int .u8)) u))), (7, [], .v (.c (.p (.int .i64) n2))), (8, [], .v (.c (.p (.int .i64) (i + (1 : Int)))))], []⟩ : St)) (by kernel_rfl) ⟨trivial, o1, trivial, trivial⟩ ?_
          refine awl_nil ?_
          exact thenQ_n ⟨(n2, (i + (1 : Int))), rfl, h⟩
        · refine aw_cond (b := ret29v) (by kernel_rfl) (fun hb => ?_) (fun hb => ?_)
          · have h := h.1 hb
            refine aw_region ?_
            obtain ⟨o1, h⟩ := h
            refine awl_runp 3 [0, 1, 7, 8] [] (ob := (True ∧ InR (n + (1 : Int)) ∧ True ∧ True)) (st' := (⟨33, [(0, [], .v (.c (.p (.sl (.int .u8)) w))), (1, [], .v (.c (.p (.sl (.int .u8)) u))), (7, [], .v (.c (.p (.int .i64) (n + (1 : Int))))), (8, [], .v (.c (.p (.int .i64) i)))], []⟩ : St)) (by kernel_rfl) ⟨trivial, o1, trivial, trivial⟩ ?_
            refine awl_nil ?_
            exact rest2 (n + (1 : Int)) h
          · have h := h.2 hb
            refine aw_conv [.prune [0, 1, 7, 8] []] (st' := (⟨33, [(0, [], .v (.c (.p (.sl (.int .u8)) w))), (1, [], .v (.c (.p (.sl (.int .u8)) u))), (7, [], .v (.c (.p (.int .i64) n))), (8, [], .v (.c (.p (.int .i64) i)))], []⟩ : St)) (by kernel_rfl) ?_
            refine aw_skip ?_
            exact rest2 n h
      · have h := h.2 hb
        refine aw_conv [.prune [7] []] (st' := (⟨33, [(7, [], .v (.c (.p (.int .i64) n)))], []⟩ : St)) (by kernel_rfl) ?_
        refine aw_exit ?_
        refine thenQ_x ?_
        refine thenQ_x ?_
        refine blockQ_hit ?_
        exact rest1 n h

-- coppicer/coppicerkeep.EndsGrow
def VC13_k1 (w : (List Int)) (b : Int) (K : Bool → Prop) (ret22v : Int × Int) (ret27v : Int × Int) (old : Int) : Prop :=
  ((((decide (ret22v.2 = (0 : Int))) && (decide (ret27v.2 = (0 : Int)))) = true → InR (ret27v.1 - ret22v.1)) ∧ (((decide (ret22v.2 = (0 : Int))) && (decide (ret27v.2 = (0 : Int)))) = true → InR ((((([] : List Int) ++ w) ++ [b]).length : Int) - old)) ∧ K (((decide (ret22v.2 = (0 : Int))) && (decide (ret27v.2 = (0 : Int)))) && (decide ((ret27v.1 - ret22v.1) = ((((([] : List Int) ++ w) ++ [b]).length : Int) - old)))))

def VC13_k2 (k : Int) (X1 : Int × Int → Prop) (old2 : Int) : Prop :=
  (InR (k + (1 : Int)) ∧ X1 (old2, (k + (1 : Int))))

def VC13_l1 (w : (List Int)) (b : Int) (K : Bool → Prop) (ret22v : Int × Int) (ret27v : Int × Int) (old : Int) (k : Int) (X1 : Int × Int → Prop) : Prop :=
  (((decide (k ≤ (((([] : List Int) ++ w) ++ [b]).length : Int))) = true → (InR ((((([] : List Int) ++ w) ++ [b]).length : Int) - k) ∧ (0 ≤ ((((([] : List Int) ++ w) ++ [b]).length : Int) - k) ∧ ((((([] : List Int) ++ w) ++ [b]).length : Int) - k) ≤ (((([] : List Int) ++ w) ++ [b]).length : Int)) ∧ VC40 w (((([] : List Int) ++ w) ++ [b]).drop (((((([] : List Int) ++ w) ++ [b]).length : Int) - k)).toNat) (fun (ret49v : Int × Int) => (((!decide (ret49v.2 = (0 : Int))) = true → K false) ∧ ((!decide (ret49v.2 = (0 : Int))) = false → (((decide ((0 : Int) < ret49v.1)) = true → VC13_k2 k X1 k) ∧ ((decide ((0 : Int) < ret49v.1)) = false → VC13_k2 k X1 old))))))) ∧ ((decide (k ≤ (((([] : List Int) ++ w) ++ [b]).length : Int))) = false → VC13_k1 w b K ret22v ret27v old))

def VC13 (w : (List Int)) (b : Int) (K : Bool → Prop) : Prop :=
  (roomN (([] : List Int).length + w.length) ∧ roomN ((([] : List Int) ++ w).length + [b].length) ∧ VC39 w (fun (ret22v : Int × Int) => VC39 ((([] : List Int) ++ w) ++ [b]) (fun (ret27v : Int × Int) => VC36 [((([] : List Int) ++ w) ++ [b])] (fun (ret32v : Bool) => ((ret32v = true → K (!decide (ret27v.2 = (0 : Int)))) ∧ (ret32v = false → Loop (σ := Int × Int) (fun s X => VC13_l1 w b K ret22v ret27v s.1 s.2 X) ((0 : Int), (1 : Int))))))))

set_option maxHeartbeats 4000000 in
theorem link13 (w : (List Int)) (b : Int) (K : Bool → Prop) (h : VC13 w b K) : ACalls Try.prog 13 [toV1 (.sl (.int .u8)) w, toV1 (.int .u8) b] (fun res => ∃ y, res = (fun y => [toV1 .bool y]) y ∧ K y) := by
  refine acalls_of_aw [.bool] [.t 4] Try.func13 rfl rfl rfl ?_
  unfold VC13 at h
  refine aw_seq ?_
  refine aw_region ?_
  refine awl_runp 1 [0, 1] [] (ob := (True ∧ True)) (st' := (⟨73, [(0, [], .v (.c (.p (.sl (.int .u8)) w))), (1, [], .v (.c (.p (.int .u8) b)))], []⟩ : St)) (by kernel_rfl) ⟨trivial, trivial⟩ ?_
  refine awl_nil ?_
  refine thenQ_n ?_
  refine aw_seq ?_
  refine aw_region ?_
  obtain ⟨o1, o2, h⟩ := h
  refine awl_runp 7 [0, 5] [19] (ob := (True ∧ True ∧ roomN (([] : List Int).length + w.length) ∧ True ∧ True ∧ roomN ((([] : List Int) ++ w).length + [b].length) ∧ True ∧ True)) (st' := (⟨73, [(0, [], .v (.c (.p (.sl (.int .u8)) w))), (5, [], .v (.c (.own 19)))], [(19, [], .arr 5 (.int .u8) ((([] : List Int) ++ w) ++ [b]))]⟩ : St)) (by kernel_rfl) ⟨trivial, trivial, o1, trivial, trivial, o2, trivial, trivial⟩ ?_
  refine awl_nil ?_
  refine thenQ_n ?_
  refine aw_seq ?_
  refine aw_region ?_
  refine awl_runp 1 [0, 5, 21] [19] (ob := (True ∧ True)) (st' := (⟨73, [(0, [], .v (.c (.p (.sl (.int .u8)) w))), (5, [], .v (.c (.own 19))), (21, [], .v (.c (.p (.sl (.int .u8)) w)))], [(19, [], .arr 5 (.int .u8) ((([] : List Int) ++ w) ++ [b]))]⟩ : St)) (by kernel_rfl) ⟨trivial, trivial⟩ ?_
  refine awl_callk (p := []) (l := [toV1 (.sl (.int .u8)) w]) (cl := []) false [.d (.sl (.int .u8))] [0, 5, 22] [19] (fun (ret22v : Int × Int) => VC39 ((([] : List Int) ++ w) ++ [b]) (fun (ret27v : Int × Int) => VC36 [((([] : List Int) ++ w) ++ [b])] (fun (ret32v : Bool) => ((ret32v = true → K (!decide (ret27v.2 = (0 : Int)))) ∧ (ret32v = false → Loop (σ := Int × Int) (fun s X => VC13_l1 w b K ret22v ret27v s.1 s.2 X) ((0 : Int), (1 : Int))))))) (fun ret22v => [toV1 (.int .i64) ret22v.1, toV1 (.int .i64) ret22v.2]) (fun ret22v => (⟨73, [(0, [], .v (.c (.p (.sl (.int .u8)) w))), (5, [], .v (.c (.own 19))), (22, [], .tup [.c (.p (.int .i64) ret22v.1), .c (.p (.int .i64) ret22v.2)])], [(19, [], .arr 5 (.int .u8) ((([] : List Int) ++ w) ++ [b]))]⟩ : St)) (by kernel_rfl) rfl (by kernel_rfl) rfl (by kernel_rfl) Try.call39 (by kernel_rfl) (fun ret22v => by kernel_rfl) (fun e => by cases e) (fun hg => link39 w _ h) (fun hg => noF hg) (fun ret22v h => ?_)
  have h : VC39 ((([] : List Int) ++ w) ++ [b]) (fun (ret27v : Int × Int) => VC36 [((([] : List Int) ++ w) ++ [b])] (fun (ret32v : Bool) => ((ret32v = true → K (!decide (ret27v.2 = (0 : Int)))) ∧ (ret32v = false → Loop (σ := Int × Int) (fun s X => VC13_l1 w b K ret22v ret27v s.1 s.2 X) ((0 : Int), (1 : Int)))))) := h
  refine awl_runp 5 [0, 5, 6, 7] [19] (ob := (True ∧ True ∧ True ∧ True ∧ True ∧ True)) (st' := (⟨73, [(0, [], .v (.c (.p (.sl (.int .u8)) w))), (5, [], .v (.c (.own 19))), (6, [], .v (.c (.p (.int .i64) ret22v.1))), (7, [], .v (.c (.p (.int .i64) ret22v.2)))], [(19, [], .arr 5 (.int .u8) ((([] : List Int) ++ w) ++ [b]))]⟩ : St)) (by kernel_rfl) ⟨trivial, trivial, trivial, trivial, trivial, trivial⟩ ?_
  refine awl_nil ?_
  refine thenQ_n ?_
  refine aw_seq ?_
  refine aw_region ?_
  refine awl_runp 1 [0, 5, 6, 7, 26] [19] (ob := (True ∧ True)) (st' := (⟨73, [(0, [], .v (.c (.p (.sl (.int .u8)) w))), (5, [], .v (.c (.own 19))), (6, [], .v (.c (.p (.int .i64) ret22v.1))), (7, [], .v (.c (.p (.int .i64) ret22v.2))), (26, [], .v (.c (.own 19)))], [(19, [], .arr 5 (.int .u8) ((([] : List Int) ++ w) ++ [b]))]⟩ : St)) (by kernel_rfl) ⟨trivial, trivial⟩ ?_
  refine awl_callk (p := []) (l := [toV1 (.sl (.int .u8)) ((([] : List Int) ++ w) ++ [b])]) (cl := []) true [.d (.sl (.int .u8))] [0, 5, 6, 7, 27] [19] (fun (ret27v : Int × Int) => VC36 [((([] : List Int) ++ w) ++ [b])] (fun (ret32v : Bool) => ((ret32v = true → K (!decide (ret27v.2 = (0 : Int)))) ∧ (ret32v = false → Loop (σ := Int × Int) (fun s X => VC13_l1 w b K ret22v ret27v s.1 s.2 X) ((0 : Int), (1 : Int)))))) (fun ret27v => [toV1 (.int .i64) ret27v.1, toV1 (.int .i64) ret27v.2]) (fun ret27v => (⟨73, [(0, [], .v (.c (.p (.sl (.int .u8)) w))), (5, [], .v (.c (.own 19))), (6, [], .v (.c (.p (.int .i64) ret22v.1))), (7, [], .v (.c (.p (.int .i64) ret22v.2))), (27, [], .tup [.c (.p (.int .i64) ret27v.1), .c (.p (.int .i64) ret27v.2)])], [(19, [], .arr 5 (.int .u8) ((([] : List Int) ++ w) ++ [b]))]⟩ : St)) (by kernel_rfl) rfl (by kernel_rfl) rfl (by kernel_rfl) Try.call39 (by kernel_rfl) (fun ret27v => by kernel_rfl) (fun _ _ => rfl) (fun hg => link39 ((([] : List Int) ++ w) ++ [b]) _ h) (fun hg => noF hg) (fun ret27v h => ?_)
  have h : VC36 [((([] : List Int) ++ w) ++ [b])] (fun (ret32v : Bool) => ((ret32v = true → K (!decide (ret27v.2 = (0 : Int)))) ∧ (ret32v = false → Loop (σ := Int × Int) (fun s X => VC13_l1 w b K ret22v ret27v s.1 s.2 X) ((0 : Int), (1 : Int))))) := h
  refine awl_runp 5 [0, 5, 6, 7, 8, 9] [19] (ob := (True ∧ True ∧ True ∧ True ∧ True ∧ True)) (st' := (⟨73, [(0, [], .v (.c (.p (.sl (.int .u8)) w))), (5, [], .v (.c (.own 19))), (6, [], .v (.c (.p (.int .i64) ret22v.1))), (7, [], .v (.c (.p (.int .i64) ret22v.2))), (8, [], .v (.c (.p (.int .i64) ret27v.1))), (9, [], .v (.c (.p (.int .i64) ret27v.2)))], [(19, [], .arr 5 (.int .u8) ((([] : List Int) ++ w) ++ [b]))]⟩ : St)) (by kernel_rfl) ⟨trivial, trivial, trivial, trivial, trivial, trivial⟩ ?_
  refine awl_nil ?_
  refine thenQ_n ?_
  refine aw_seq ?_
  refine aw_seq ?_
  refine aw_region ?_
  refine awl_runp 1 [0, 5, 6, 7, 8, 9, 30] [19] (ob := (True ∧ True)) (st' := (⟨73, [(0, [], .v (.c (.p (.sl (.int .u8)) w))), (5, [], .v (.c (.own 19))), (6, [], .v (.c (.p (.int .i64) ret22v.1))), (7, [], .v (.c (.p (.int .i64) ret22v.2))), (8, [], .v (.c (.p (.int .i64) ret27v.1))), (9, [], .v (.c (.p (.int .i64) ret27v.2))), (30, [], .v (.c (.own 19)))], [(19, [], .arr 5 (.int .u8) ((([] : List Int) ++ w) ++ [b]))]⟩ : St)) (by kernel_rfl) ⟨trivial, trivial⟩ ?_
  refine awl_conv [.freeze 19] (st' := (⟨73, [(0, [], .v (.c (.p (.sl (.int .u8)) w))), (5, [], .v (.c (.p (.sl (.int .u8)) ((([] : List Int) ++ w) ++ [b])))), (6, [], .v (.c (.p (.int .i64) ret22v.1))), (7, [], .v (.c (.p (.int .i64) ret22v.2))), (8, [], .v (.c (.p (.int .i64) ret27v.1))), (9, [], .v (.c (.p (.int .i64) ret27v.2))), (30, [], .v (.c (.p (.sl (.int .u8)) ((([] : List Int) ++ w) ++ [b]))))], []⟩ : St)) (by kernel_rfl) ?_
  refine awl_runp 1 [0, 5, 6, 7, 8, 9, 31] [31] (ob := (True ∧ True)) (st' := (⟨73, [(0, [], .v (.c (.p (.sl (.int .u8)) w))), (5, [], .v (.c (.p (.sl (.int .u8)) ((([] : List Int) ++ w) ++ [b])))), (6, [], .v (.c (.p (.int .i64) ret22v.1))), (7, [], .v (.c (.p (.int .i64) ret22v.2))), (8, [], .v (.c (.p (.int .i64) ret27v.1))), (9, [], .v (.c (.p (.int .i64) ret27v.2))), (31, [], .v (.c (.own 31)))], [(31, [], .arr 22 (.sl (.int .u8)) [((([] : List Int) ++ w) ++ [b])])]⟩ : St)) (by kernel_rfl) ⟨trivial, trivial⟩ ?_
  refine awl_callk (p := []) (l := [toV1 (.sl (.sl (.int .u8))) [((([] : List Int) ++ w) ++ [b])]]) (cl := []) true [.d (.sl (.sl (.int .u8)))] [0, 5, 6, 7, 8, 9, 32] [] (fun (ret32v : Bool) => ((ret32v = true → K (!decide (ret27v.2 = (0 : Int)))) ∧ (ret32v = false → Loop (σ := Int × Int) (fun s X => VC13_l1 w b K ret22v ret27v s.1 s.2 X) ((0 : Int), (1 : Int))))) (fun ret32v => [toV1 .bool ret32v]) (fun ret32v => (⟨73, [(0, [], .v (.c (.p (.sl (.int .u8)) w))), (5, [], .v (.c (.p (.sl (.int .u8)) ((([] : List Int) ++ w) ++ [b])))), (6, [], .v (.c (.p (.int .i64) ret22v.1))), (7, [], .v (.c (.p (.int .i64) ret22v.2))), (8, [], .v (.c (.p (.int .i64) ret27v.1))), (9, [], .v (.c (.p (.int .i64) ret27v.2))), (32, [], .v (.c (.p .bool ret32v)))], []⟩ : St)) (by kernel_rfl) rfl (by kernel_rfl) rfl (by kernel_rfl) Try.call36 (by kernel_rfl) (fun ret32v => by kernel_rfl) (fun _ _ => rfl) (fun hg => link36 [((([] : List Int) ++ w) ++ [b])] _ h) (fun hg => noF hg) (fun ret32v h => ?_)
  have h : ((ret32v = true → K (!decide (ret27v.2 = (0 : Int)))) ∧ (ret32v = false → Loop (σ := Int × Int) (fun s X => VC13_l1 w b K ret22v ret27v s.1 s.2 X) ((0 : Int), (1 : Int)))) := h
  refine awl_nil ?_
  refine thenQ_n ?_
  refine aw_cond (b := ret32v) (by kernel_rfl) (fun hb => ?_) (fun hb => ?_)
  · have h := h.1 hb
    refine aw_seq ?_
    refine aw_region ?_
    refine awl_runp 3 [4] [] (ob := (True ∧ True ∧ True ∧ True)) (st' := (⟨73, [(4, [], .v (.c (.p .bool (!decide (ret27v.2 = (0 : Int))))))], []⟩ : St)) (by kernel_rfl) ⟨trivial, trivial, trivial, trivial⟩ ?_
    refine awl_nil ?_
    refine thenQ_n ?_
    refine aw_ret ?_
    refine thenQ_r ?_
    exact retQ_r (σ := Bool) (R := (fun y => [toV1 .bool y])) (ob := (True ∧ True)) (!decide (ret27v.2 = (0 : Int))) (by kernel_rfl) ⟨trivial, trivial⟩ h
  · have h := h.2 hb
    refine aw_skip ?_
    refine thenQ_n ?_
    refine aw_seq ?_
    refine aw_region ?_
    refine awl_runp 1 [0, 5, 6, 7, 8, 9, 10] [] (ob := (True ∧ True)) (st' := (⟨73, [(0, [], .v (.c (.p (.sl (.int .u8)) w))), (5, [], .v (.c (.p (.sl (.int .u8)) ((([] : List Int) ++ w) ++ [b])))), (6, [], .v (.c (.p (.int .i64) ret22v.1))), (7, [], .v (.c (.p (.int .i64) ret22v.2))), (8, [], .v (.c (.p (.int .i64) ret27v.1))), (9, [], .v (.c (.p (.int .i64) ret27v.2))), (10, [], .v (.c (.p (.int .i64) (0 : Int))))], []⟩ : St)) (by kernel_rfl) ⟨trivial, trivial⟩ ?_
    refine awl_nil ?_
    refine thenQ_n ?_
    refine aw_seq ?_
    refine aw_seq ?_
    refine aw_region ?_
    refine awl_runp 1 [0, 5, 6, 7, 8, 9, 10, 11] [] (ob := (True ∧ True)) (st' := (⟨73, [(0, [], .v (.c (.p (.sl (.int .u8)) w))), (5, [], .v (.c (.p (.sl (.int .u8)) ((([] : List Int) ++ w) ++ [b])))), (6, [], .v (.c (.p (.int .i64) ret22v.1))), (7, [], .v (.c (.p (.int .i64) ret22v.2))), (8, [], .v (.c (.p (.int .i64) ret27v.1))), (9, [], .v (.c (.p (.int .i64) ret27v.2))), (10, [], .v (.c (.p (.int .i64) (0 : Int)))), (11, [], .v (.c (.p (.int .i64) (1 : Int))))], []⟩ : St)) (by kernel_rfl) ⟨trivial, trivial⟩ ?_
    refine awl_nil ?_
    refine thenQ_n ?_
    refine withJoin (σ := Int) (fun s => (⟨73, [(5, [], .v (.c (.p (.sl (.int .u8)) ((([] : List Int) ++ w) ++ [b])))), (6, [], .v (.c (.p (.int .i64) ret22v.1))), (7, [], .v (.c (.p (.int .i64) ret22v.2))), (8, [], .v (.c (.p (.int .i64) ret27v.1))), (9, [], .v (.c (.p (.int .i64) ret27v.2))), (10, [], .v (.c (.p (.int .i64) s)))], []⟩ : St)) (fun s => VC13_k1 w b K ret22v ret27v s) (fun old h => ?_) (fun rest1 => ?_)
    · have h : VC13_k1 w b K ret22v ret27v old := h
      unfold VC13_k1 at h
      refine thenQ_n ?_
      refine aw_seq ?_
      refine aw_region ?_
      obtain ⟨o1, o2, h⟩ := h
      refine awl_runp 17 [4] [] (ob := (True ∧ True ∧ True ∧ ((decide (ret22v.2 = (0 : Int))) = true → True) ∧ ((decide (ret22v.2 = (0 : Int))) = true → True) ∧ True ∧ True ∧ (((decide (ret22v.2 = (0 : Int))) && (decide (ret27v.2 = (0 : Int)))) = true → True) ∧ (((decide (ret22v.2 = (0 : Int))) && (decide (ret27v.2 = (0 : Int)))) = true → True) ∧ (((decide (ret22v.2 = (0 : Int))) && (decide (ret27v.2 = (0 : Int)))) = true → InR (ret27v.1 - ret22v.1)) ∧ (((decide (ret22v.2 = (0 : Int))) && (decide (ret27v.2 = (0 : Int)))) = true → True) ∧ (((decide (ret22v.2 = (0 : Int))) && (decide (ret27v.2 = (0 : Int)))) = true → True) ∧ (((decide (ret22v.2 = (0 : Int))) && (decide (ret27v.2 = (0 : Int)))) = true → True) ∧ (((decide (ret22v.2 = (0 : Int))) && (decide (ret27v.2 = (0 : Int)))) = true → InR ((((([] : List Int) ++ w) ++ [b]).length : Int) - old)) ∧ (((decide (ret22v.2 = (0 : Int))) && (decide (ret27v.2 = (0 : Int)))) = true → True) ∧ True ∧ True ∧ True)) (st' := (⟨73, [(4, [], .v (.c (.p .bool (((decide (ret22v.2 = (0 : Int))) && (decide (ret27v.2 = (0 : Int)))) && (decide ((ret27v.1 - ret22v.1) = ((((([] : List Int) ++ w) ++ [b]).length : Int) - old)))))))], []⟩ : St)) (by kernel_rfl) ⟨trivial, trivial, trivial, (fun _ => trivial), (fun _ => trivial), trivial, trivial, (fun _ => trivial), (fun _ => trivial), o1, (fun _ => trivial), (fun _ => trivial), (fun _ => trivial), o2, (fun _ => trivial), trivial, trivial, trivial⟩ ?_
      refine awl_nil ?_
      refine thenQ_n ?_
      refine aw_ret ?_
      exact retQ_r (σ := Bool) (R := (fun y => [toV1 .bool y])) (ob := (True ∧ True)) (((decide (ret22v.2 = (0 : Int))) && (decide (ret27v.2 = (0 : Int)))) && (decide ((ret27v.1 - ret22v.1) = ((((([] : List Int) ++ w) ++ [b]).length : Int) - old)))) (by kernel_rfl) ⟨trivial, trivial⟩ h
    · refine aw_block ?_
      refine aw_loop (σ := Int × Int) (fun s => (⟨73, [(0, [], .v (.c (.p (.sl (.int .u8)) w))), (5, [], .v (.c (.p (.sl (.int .u8)) ((([] : List Int) ++ w) ++ [b])))), (6, [], .v (.c (.p (.int .i64) ret22v.1))), (7, [], .v (.c (.p (.int .i64) ret22v.2))), (8, [], .v (.c (.p (.int .i64) ret27v.1))), (9, [], .v (.c (.p (.int .i64) ret27v.2))), (10, [], .v (.c (.p (.int .i64) s.1))), (11, [], .v (.c (.p (.int .i64) s.2)))], []⟩ : St)) (fun s X => VC13_l1 w b K ret22v ret27v s.1 s.2 X) (s0 := ((0 : Int), (1 : Int))) (fun s X1 h => ?_) h
      obtain ⟨old, k⟩ := s
      have h : VC13_l1 w b K ret22v ret27v old k X1 := h
      unfold VC13_l1 at h
      refine aw_seq ?_
      refine aw_seq ?_
      refine aw_region ?_
      refine awl_runp 4 [0, 5, 6, 7, 8, 9, 10, 11, 38] [] (ob := (True ∧ True ∧ True ∧ True ∧ True)) (st' := (⟨73, [(0, [], .v (.c (.p (.sl (.int .u8)) w))), (5, [], .v (.c (.p (.sl (.int .u8)) ((([] : List Int) ++ w) ++ [b])))), (6, [], .v (.c (.p (.int .i64) ret22v.1))), (7, [], .v (.c (.p (.int .i64) ret22v.2))), (8, [], .v (.c (.p (.int .i64) ret27v.1))), (9, [], .v (.c (.p (.int .i64) ret27v.2))), (10, [], .v (.c (.p (.int .i64) old))), (11, [], .v (.c (.p (.int .i64) k))), (38, [], .v (.c (.p .bool (decide (k ≤ (((([] : List Int) ++ w) ++ [b]).length : Int))))))], []⟩ : St)) (by kernel_rfl) ⟨trivial, trivial, trivial, trivial, trivial⟩ ?_
      refine awl_nil ?_
      refine thenQ_n ?_
      refine aw_cond (b := (decide (k ≤ (((([] : List Int) ++ w) ++ [b]).length : Int)))) (by kernel_rfl) (fun hb => ?_) (fun hb => ?_)
      · have h := h.1 hb
        refine aw_skip ?_
        refine thenQ_n ?_
        refine aw_seq ?_
        refine aw_block ?_
        refine aw_seq ?_
        refine aw_region ?_
        obtain ⟨o1, o2, h⟩ := h
        refine awl_runp 7 [0, 5, 6, 7, 8, 9, 10, 11, 42, 48] [] (ob := (True ∧ True ∧ True ∧ True ∧ True ∧ InR ((((([] : List Int) ++ w) ++ [b]).length : Int) - k) ∧ (0 ≤ ((((([] : List Int) ++ w) ++ [b]).length : Int) - k) ∧ ((((([] : List Int) ++ w) ++ [b]).length : Int) - k) ≤ (((([] : List Int) ++ w) ++ [b]).length : Int)) ∧ True)) (st' := (⟨73, [(0, [], .v (.c (.p (.sl (.int .u8)) w))), (5, [], .v (.c (.p (.sl (.int .u8)) ((([] : List Int) ++ w) ++ [b])))), (6, [], .v (.c (.p (.int .i64) ret22v.1))), (7, [], .v (.c (.p (.int .i64) ret22v.2))), (8, [], .v (.c (.p (.int .i64) ret27v.1))), (9, [], .v (.c (.p (.int .i64) ret27v.2))), (10, [], .v (.c (.p (.int .i64) old))), (11, [], .v (.c (.p (.int .i64) k))), (42, [], .v (.c (.p (.sl (.int .u8)) w))), (48, [], .v (.c (.p (.sl (.int .u8)) (((([] : List Int) ++ w) ++ [b]).drop (((((([] : List Int) ++ w) ++ [b]).length : Int) - k)).toNat))))], []⟩ : St)) (by kernel_rfl) ⟨trivial, trivial, trivial, trivial, trivial, o1, o2, trivial⟩ ?_
        refine awl_callk (p := []) (l := [toV1 (.sl (.int .u8)) w, toV1 (.sl (.int .u8)) (((([] : List Int) ++ w) ++ [b]).drop (((((([] : List Int) ++ w) ++ [b]).length : Int) - k)).toNat)]) (cl := []) false [.d (.sl (.int .u8)), .d (.sl (.int .u8))] [0, 5, 6, 7, 8, 9, 10, 11, 49] [] (fun (ret49v : Int × Int) => (((!decide (ret49v.2 = (0 : Int))) = true → K false) ∧ ((!decide (ret49v.2 = (0 : Int))) = false → (((decide ((0 : Int) < ret49v.1)) = true → VC13_k2 k X1 k) ∧ ((decide ((0 : Int) < ret49v.1)) = false → VC13_k2 k X1 old))))) (fun ret49v => [toV1 (.int .i64) ret49v.1, toV1 (.int .i64) ret49v.2]) (fun ret49v => (⟨73, [(0, [], .v (.c (.p (.sl (.int .u8)) w))), (5, [], .v (.c (.p (.sl (.int .u8)) ((([] : List Int) ++ w) ++ [b])))), (6, [], .v (.c (.p (.int .i64) ret22v.1))), (7, [], .v (.c (.p (.int .i64) ret22v.2))), (8, [], .v (.c (.p (.int .i64) ret27v.1))), (9, [], .v (.c (.p (.int .i64) ret27v.2))), (10, [], .v (.c (.p (.int .i64) old))), (11, [], .v (.c (.p (.int .i64) k))), (49, [], .tup [.c (.p (.int .i64) ret49v.1), .c (.p (.int .i64) ret49v.2)])], []⟩ : St)) (by kernel_rfl) rfl (by kernel_rfl) rfl (by kernel_rfl) Try.call40 (by kernel_rfl) (fun ret49v => by kernel_rfl) (fun e => by cases e) (fun hg => link40 w (((([] : List Int) ++ w) ++ [b]).drop (((((([] : List Int) ++ w) ++ [b]).length : Int) - k)).toNat) _ h) (fun hg => noF hg) (fun ret49v h => ?_)
        have h : (((!decide (ret49v.2 = (0 : Int))) = true → K false) ∧ ((!decide (ret49v.2 = (0 : Int))) = false → (((decide ((0 : Int) < ret49v.1)) = true → VC13_k2 k X1 k) ∧ ((decide ((0 : Int) < ret49v.1)) = false → VC13_k2 k X1 old)))) := h
        refine awl_runp 5 [0, 5, 6, 7, 8, 9, 10, 11, 12, 13] [] (ob := (True ∧ True ∧ True ∧ True ∧ True ∧ True)) (st' := (⟨73, [(0, [], .v (.c (.p (.sl (.int .u8)) w))), (5, [], .v (.c (.p (.sl (.int .u8)) ((([] : List Int) ++ w) ++ [b])))), (6, [], .v (.c (.p (.int .i64) ret22v.1))), (7, [], .v (.c (.p (.int .i64) ret22v.2))), (8, [], .v (.c (.p (.int .i64) ret27v.1))), (9, [], .v (.c (.p (.int .i64) ret27v.2))), (10, [], .v (.c (.p (.int .i64) old))), (11, [], .v (.c (.p (.int .i64) k))), (12, [], .v (.c (.p (.int .i64) ret49v.1))), (13, [], .v (.c (.p (.int .i64) ret49v.2)))], []⟩ : St)) (by kernel_rfl) ⟨trivial, trivial, trivial, trivial, trivial, trivial⟩ ?_
        refine awl_nil ?_
        refine thenQ_n ?_
        refine aw_seq ?_
        refine aw_seq ?_
        refine aw_region ?_
        refine awl_runp 2 [0, 5, 6, 7, 8, 9, 10, 11, 12, 53] [] (ob := (True ∧ True ∧ True)) (st' := (⟨73, [(0, [], .v (.c (.p (.sl (.int .u8)) w))), (5, [], .v (.c (.p (.sl (.int .u8)) ((([] : List Int) ++ w) ++ [b])))), (6, [], .v (.c (.p (.int .i64) ret22v.1))), (7, [], .v (.c (.p (.int .i64) ret22v.2))), (8, [], .v (.c (.p (.int .i64) ret27v.1))), (9, [], .v (.c (.p (.int .i64) ret27v.2))), (10, [], .v (.c (.p (.int .i64) old))), (11, [], .v (.c (.p (.int .i64) k))), (12, [], .v (.c (.p (.int .i64) ret49v.1))), (53, [], .v (.c (.p .bool (!decide (ret49v.2 = (0 : Int))))))], []⟩ : St)) (by kernel_rfl) ⟨trivial, trivial, trivial⟩ ?_
        refine awl_nil ?_
        refine thenQ_n ?_
        refine aw_cond (b := (!decide (ret49v.2 = (0 : Int)))) (by kernel_rfl) (fun hb => ?_) (fun hb => ?_)
        · have h := h.1 hb
          refine aw_seq ?_
          refine aw_region ?_
          refine awl_runp 1 [4] [] (ob := (True ∧ True)) (st' := (⟨73, [(4, [], .v (.c (.p .bool false)))], []⟩ : St)) (by kernel_rfl) ⟨trivial, trivial⟩ ?_
          refine awl_nil ?_
          refine thenQ_n ?_
          refine aw_ret ?_
          refine thenQ_r ?_
          refine blockQ_r ?_
          refine thenQ_r ?_
          refine thenQ_r ?_
          refine blockQ_r ?_
          refine thenQ_r ?_
          exact retQ_r (σ := Bool) (R := (fun y => [toV1 .bool y])) (ob := (True ∧ True)) false (by kernel_rfl) ⟨trivial, trivial⟩ h
        · have h := h.2 hb
          refine aw_skip ?_
          refine thenQ_n ?_
          refine aw_seq ?_
          refine aw_region ?_
          refine awl_runp 2 [0, 5, 6, 7, 8, 9, 10, 11, 55] [] (ob := (True ∧ True ∧ True)) (st' := (⟨73, [(0, [], .v (.c (.p (.sl (.int .u8)) w))), (5, [], .v (.c (.p (.sl (.int .u8)) ((([] : List Int) ++ w) ++ [b])))), (6, [], .v (.c (.p (.int .i64) ret22v.1))), (7, [], .v (.c (.p (.int .i64) ret22v.2))), (8, [], .v (.c (.p (.int .i64) ret27v.1))), (9, [], .v (.c (.p (.int .i64) ret27v.2))), (10, [], .v (.c (.p (.int .i64) old))), (11, [], .v (.c (.p (.int .i64) k))), (55, [], .v (.c (.p .bool (decide ((0 : Int) < ret49v.1)))))], []⟩ : St)) (by kernel_rfl) ⟨trivial, trivial, trivial⟩ ?_
          refine awl_nil ?_
          refine thenQ_n ?_
          refine withJoin (σ := Int) (fun s => (⟨73, [(0, [], .v (.c (.p (.sl (.int .u8)) w))), (5, [], .v (.c (.p (.sl (.int .u8)) ((([] : List Int) ++ w) ++ [b])))), (6, [], .v (.c (.p (.int .i64) ret22v.1))), (7, [], .v (.c (.p (.int .i64) ret22v.2))), (8, [], .v (.c (.p (.int .i64) ret27v.1))), (9, [], .v (.c (.p (.int .i64) ret27v.2))), (10, [], .v (.c (.p (.int .i64) s))), (11, [], .v (.c (.p (.int .i64) k)))], []⟩ : St)) (fun s => VC13_k2 k X1 s) (fun old2 h => ?_) (fun rest2 => ?_)
          · have h : VC13_k2 k X1 old2 := h
            unfold VC13_k2 at h
            refine blockQ_n ?_
            refine thenQ_n ?_
            refine aw_region ?_
            obtain ⟨o1, h⟩ := h
            refine awl_runp 3 [0, 5, 6, 7, 8, 9, 10, 11] [] (ob := (True ∧ InR (k + (1 : Int)) ∧ True ∧ True)) (st' := (⟨73, [(0, [], .v (.c (.p (.sl (.int .u8)) w))), (5, [], .v (.c (.p (.sl (.int .u8)) ((([] : List Int) ++ w) ++ [b])))), (6, [], .v (.c (.p (.int .i64) ret22v.1))), (7, [], .v (.c (.p (.int .i64) ret22v.2))), (8, [], .v (.c (.p (.int .i64) ret27v.1))), (9, [], .v (.c (.p (.int .i64) ret27v.2))), (10, [], .v (.c (.p (.int .i64) old2))), (11, [], .v (.c (.p (.int .i64) (k + (1 : Int)))))], []⟩ : St)) (by kernel_rfl) ⟨trivial, o1, trivial, trivial⟩ ?_
            refine awl_nil ?_
            exact thenQ_n ⟨(old2, (k + (1 : Int))), rfl, h⟩
          · refine aw_cond (b := (decide ((0 : Int) < ret49v.1))) (by kernel_rfl) (fun hb => ?_) (fun hb => ?_)
            · have h := h.1 hb
              refine aw_region ?_
              refine awl_runp 2 [0, 5, 6, 7, 8, 9, 10, 11] [] (ob := (True ∧ True ∧ True)) (st' := (⟨73, [(0, [], .v (.c (.p (.sl (.int .u8)) w))), (5, [], .v (.c (.p (.sl (.int .u8)) ((([] : List Int) ++ w) ++ [b])))), (6, [], .v (.c (.p (.int .i64) ret22v.1))), (7, [], .v (.c (.p (.int .i64) ret22v.2))), (8, [], .v (.c (.p (.int .i64) ret27v.1))), (9, [], .v (.c (.p (.int .i64) ret27v.2))), (10, [], .v (.c (.p (.int .i64) k))), (11, [], .v (.c (.p (.int .i64) k)))], []⟩ : St)) (by kernel_rfl) ⟨trivial, trivial, trivial⟩ ?_
              refine awl_nil ?_
              exact rest2 k h
            · have h := h.2 hb
              refine aw_conv [.prune [0, 5, 6, 7, 8, 9, 10, 11] []] (st' := (⟨73, [(0, [], .v (.c (.p (.sl (.int .u8)) w))), (5, [], .v (.c (.p (.sl (.int .u8)) ((([] : List Int) ++ w) ++ [b])))), (6, [], .v (.c (.p (.int .i64) ret22v.1))), (7, [], .v (.c (.p (.int .i64) ret22v.2))), (8, [], .v (.c (.p (.int .i64) ret27v.1))), (9, [], .v (.c (.p (.int .i64) ret27v.2))), (10, [], .v (.c (.p (.int .i64) old))), (11, [], .v (.c (.p (.int .i64) k)))], []⟩ : St)) (by kernel_rfl) ?_
              refine aw_skip ?_
              exact rest2 old h
      · have h := h.2 hb
        refine aw_conv [.prune [5, 6, 7, 8, 9, 10] []] (st' := (⟨73, [(5, [], .v (.c (.p (.sl (.int .u8)) ((([] : List Int) ++ w) ++ [b])))), (6, [], .v (.c (.p (.int .i64) ret22v.1))), (7, [], .v (.c (.p (.int .i64) ret22v.2))), (8, [], .v (.c (.p (.int .i64) ret27v.1))), (9, [], .v (.c (.p (.int .i64) ret27v.2))), (10, [], .v (.c (.p (.int .i64) old)))], []⟩ : St)) (by kernel_rfl) ?_
        refine aw_exit ?_
        refine thenQ_x ?_
        refine thenQ_x ?_
        refine blockQ_hit ?_
        exact rest1 old h

end Dec
