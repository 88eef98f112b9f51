/-
  Printed by dec2.py: of each function its plain demand, and that the demand gives the contract.
-/
import Derived.Test.YtjjlefbbdnfjiaaProg
import Derived.Test.YtjjlefbbdnfjiaaDecU
set_option linter.unusedVariables false
set_option linter.unusedSimpArgs false
set_option maxRecDepth 100000
namespace Dec
open Go Go.RowKit Go.Proofs

-- coppicer/power.Large
def VC38_k1 (K : Int → Prop) : Prop :=
  K (0 : Int)

def VC38_l1 (words : (List (List Int))) (K : Int → Prop) (v7 : Int) (X1 : Int → Prop) : Prop :=
  (((decide (v7 < (words.length : Int))) = true → (inIdx v7 words.length ∧ (((decide ((60 : Int) < ((words.getD (v7).toNat ([] : (List Int))).length : Int))) = true → K (1 : Int)) ∧ ((decide ((60 : Int) < ((words.getD (v7).toNat ([] : (List Int))).length : Int))) = false → (InR (v7 + (1 : Int)) ∧ X1 (v7 + (1 : Int))))))) ∧ ((decide (v7 < (words.length : Int))) = false → VC38_k1 K))

def VC38 (words : (List (List Int))) (K : Int → Prop) : Prop :=
  Loop (σ := Int) (fun s X => VC38_l1 words K s X) (0 : Int)

set_option maxHeartbeats 4000000 in
theorem link38 (words : (List (List Int))) (K : Int → Prop) (h : VC38 words K) : ACalls Try.prog 38 [toV1 (.sl (.sl (.int .u8))) words] (fun res => ∃ y, res = (fun y => [toV1 (.int .i64) y]) y ∧ K y) := by
  refine acalls_of_aw [(.int .i64)] [.t 2] Try.func38 rfl rfl rfl ?_
  unfold VC38 at h
  refine aw_seq ?_
  refine aw_region ?_
  refine awl_runp 1 [0] [] (ob := (True ∧ True)) (st' := (⟨15, [(0, [], .v (.c (.p (.sl (.sl (.int .u8))) words)))], []⟩ : St)) (by kernel_rfl) ⟨trivial, trivial⟩ ?_
  refine awl_nil ?_
  refine thenQ_n ?_
  refine aw_seq ?_
  refine aw_seq ?_
  refine aw_region ?_
  refine awl_runp 3 [5, 6, 7] [] (ob := (True ∧ True ∧ True ∧ True)) (st' := (⟨15, [(5, [], .v (.c (.p (.sl (.sl (.int .u8))) words))), (6, [], .v (.c (.p (.int .i64) (words.length : Int)))), (7, [], .v (.c (.p (.int .i64) (0 : Int))))], []⟩ : St)) (by kernel_rfl) ⟨trivial, trivial, trivial, trivial⟩ ?_
  refine awl_nil ?_
  refine thenQ_n ?_
  refine withJoin (σ := Unit) (fun s => (⟨15, [], []⟩ : St)) (fun s => VC38_k1 K) (fun s h => ?_) (fun rest1 => ?_)
  · have h : VC38_k1 K := h
    unfold VC38_k1 at h
    refine thenQ_n ?_
    refine aw_seq ?_
    refine aw_region ?_
    refine awl_runp 1 [2] [] (ob := (True ∧ True)) (st' := (⟨15, [(2, [], .v (.c (.p (.int .i64) (0 : Int))))], []⟩ : St)) (by kernel_rfl) ⟨trivial, trivial⟩ ?_
    refine awl_nil ?_
    refine thenQ_n ?_
    refine aw_ret ?_
    exact retQ_r (σ := Int) (R := (fun y => [toV1 (.int .i64) y])) (ob := (True ∧ True)) (0 : Int) (by kernel_rfl) ⟨trivial, trivial⟩ h
  · refine aw_block ?_
    refine aw_loop (σ := Int) (fun s => (⟨15, [(5, [], .v (.c (.p (.sl (.sl (.int .u8))) words))), (6, [], .v (.c (.p (.int .i64) (words.length : Int)))), (7, [], .v (.c (.p (.int .i64) s)))], []⟩ : St)) (fun s X => VC38_l1 words K s X) (s0 := (0 : Int)) (fun v7 X1 h => ?_) h
    have h : VC38_l1 words K v7 X1 := h
    unfold VC38_l1 at h
    refine aw_seq ?_
    refine aw_region ?_
    refine awl_runp 1 [5, 6, 7, 8] [] (ob := (True ∧ True)) (st' := (⟨15, [(5, [], .v (.c (.p (.sl (.sl (.int .u8))) words))), (6, [], .v (.c (.p (.int .i64) (words.length : Int)))), (7, [], .v (.c (.p (.int .i64) v7))), (8, [], .v (.c (.p .bool (decide (v7 < (words.length : Int))))))], []⟩ : St)) (by kernel_rfl) ⟨trivial, trivial⟩ ?_
    refine awl_nil ?_
    refine thenQ_n ?_
    refine aw_seq ?_
    refine aw_cond (b := (decide (v7 < (words.length : Int)))) (by kernel_rfl) (fun hb => ?_) (fun hb => ?_)
    · have h := h.1 hb
      refine aw_skip ?_
      refine thenQ_n ?_
      refine aw_seq ?_
      refine aw_block ?_
      refine aw_seq ?_
      refine aw_region ?_
      obtain ⟨o1, h⟩ := h
      refine awl_runp 3 [4, 5, 6, 7] [] (ob := (inIdx v7 words.length ∧ True ∧ True ∧ True)) (st' := (⟨15, [(4, [], .v (.c (.p (.sl (.int .u8)) (words.getD (v7).toNat ([] : (List Int)))))), (5, [], .v (.c (.p (.sl (.sl (.int .u8))) words))), (6, [], .v (.c (.p (.int .i64) (words.length : Int)))), (7, [], .v (.c (.p (.int .i64) v7)))], []⟩ : St)) (by kernel_rfl) ⟨o1, trivial, trivial, trivial⟩ ?_
      refine awl_nil ?_
      refine thenQ_n ?_
      refine aw_seq ?_
      refine aw_region ?_
      refine awl_runp 3 [5, 6, 7, 13] [] (ob := (True ∧ True ∧ True ∧ True)) (st' := (⟨15, [(5, [], .v (.c (.p (.sl (.sl (.int .u8))) words))), (6, [], .v (.c (.p (.int .i64) (words.length : Int)))), (7, [], .v (.c (.p (.int .i64) v7))), (13, [], .v (.c (.p .bool (decide ((60 : Int) < ((words.getD (v7).toNat ([] : (List Int))).length : Int))))))], []⟩ : St)) (by kernel_rfl) ⟨trivial, trivial, trivial, trivial⟩ ?_
      refine awl_nil ?_
      refine thenQ_n ?_
      refine aw_cond (b := (decide ((60 : Int) < ((words.getD (v7).toNat ([] : (List Int))).length : Int)))) (by kernel_rfl) (fun hb => ?_) (fun hb => ?_)
      · have h := h.1 hb
        refine aw_seq ?_
        refine aw_region ?_
        refine awl_runp 1 [2] [] (ob := (True ∧ True)) (st' := (⟨15, [(2, [], .v (.c (.p (.int .i64) (1 : Int))))], []⟩ : St)) (by kernel_rfl) ⟨trivial, trivial⟩ ?_
        refine awl_nil ?_
        refine thenQ_n ?_
        refine aw_ret ?_
        refine blockQ_r ?_
        refine thenQ_r ?_
        refine thenQ_r ?_
        refine blockQ_r ?_
        refine thenQ_r ?_
        exact retQ_r (σ := Int) (R := (fun y => [toV1 (.int .i64) y])) (ob := (True ∧ True)) (1 : Int) (by kernel_rfl) ⟨trivial, trivial⟩ h
      · have h := h.2 hb
        refine aw_skip ?_
        refine blockQ_n ?_
        refine thenQ_n ?_
        refine aw_region ?_
        obtain ⟨o1, h⟩ := h
        refine awl_runp 2 [5, 6, 7] [] (ob := (InR (v7 + (1 : Int)) ∧ True ∧ True)) (st' := (⟨15, [(5, [], .v (.c (.p (.sl (.sl (.int .u8))) words))), (6, [], .v (.c (.p (.int .i64) (words.length : Int)))), (7, [], .v (.c (.p (.int .i64) (v7 + (1 : Int)))))], []⟩ : St)) (by kernel_rfl) ⟨o1, trivial, trivial⟩ ?_
        refine awl_nil ?_
        exact thenQ_n ⟨(v7 + (1 : Int)), rfl, h⟩
    · have h := h.2 hb
      refine aw_conv [.prune [] []] (st' := (⟨15, [], []⟩ : St)) (by kernel_rfl) ?_
      refine aw_exit ?_
      refine thenQ_x ?_
      refine thenQ_x ?_
      refine blockQ_hit ?_
      exact rest1 () h

theorem ext47 {w : World} {S : Nat → Prop} {a b : List Int} {va vb : Value} (ha : Enc w S (.sl (.int .u8)) a [va]) (hb : Enc w S (.sl (.int .u8)) b [vb]) :
    (callFunc 47 #[va, vb]).run Try.prog w = .ok (.value (.int .i64 (cmpL a b))) w := by
  have e1 : (Try.f47.name == "runtime.NumGoroutine") = false := by kernel_rfl
  have e2 : Try.f47.body.isNone = true := by kernel_rfl
  have e3 : (Extern.findNext Try.f47).isNone = true := by kernel_rfl
  have e4 : Extern.find Try.f47 = some Extern.BytealgCompare.compare := by kernel_rfl
  have e3' : Extern.findNext Try.f47 = none := by simpa using e3
  unfold callFunc
  rw [Sem.run_bind, run_program, Result.andThen_ok]
  simp only [Try.func47, e1, e2, Bool.false_eq_true, if_false, if_true]
  rw [Sem.run_bind, run_mark, Result.andThen_ok]
  simp only [e3', e4]
  rw [Sem.run_bind]
  have e5 : (Extern.BytealgCompare.compare #[va, vb]).run Try.prog w = .ok (.int .i64 (cmpL a b)) w := by
    have e6 : Extern.BytealgCompare.compare #[va, vb] = (do pure (goInt (Extern.BytealgCompare.cmp (← Extern.Bytes.bytesOf va) (← Extern.Bytes.bytesOf vb)))) := rfl
    rw [e6]
    simp only [Sem.run_bind, run_bytesOf ha, run_bytesOf hb, Result.andThen_ok, Sem.run_pure, cmp_strOfNums (enc_bytes ha) (enc_bytes hb)]
    rfl
  rw [e5]
  rfl

def VC43 (a b : List Int) (K : Int → Prop) : Prop := K (cmpL a b)

theorem cmpL_range : ∀ a b : List Int, -1 ≤ cmpL a b ∧ cmpL a b ≤ 1
  | [], [] => by simp [cmpL]
  | [], _ :: _ => by simp [cmpL]
  | _ :: _, [] => by simp [cmpL]
  | x :: a, y :: b => by
    have := cmpL_range a b
    simp only [cmpL]
    split
    · omega
    · split <;> omega

theorem link43 (a b : List Int) (K : Int → Prop) (h : VC43 a b K) : ACalls Try.prog 43 [toV1 (.sl (.int .u8)) a, toV1 (.sl (.int .u8)) b] (fun res => ∃ y, res = (fun y => [toV1 (.int .i64) y]) y ∧ K y) := by
  refine acalls_of_aw [.int .i64] [.t 4] Try.func43 rfl rfl rfl ?_
  refine aw_seq ?_
  refine aw_region ?_
  refine awl_runp 1 [0, 1] [] (ob := (True ∧ True)) (st' := (⟨8, [(0, [], .v (.c (.p (.sl (.int .u8)) a))), (1, [], .v (.c (.p (.sl (.int .u8)) b)))], []⟩ : St)) (by kernel_rfl) ⟨trivial, trivial⟩ ?_
  refine awl_nil ?_
  refine thenQ_n ?_
  refine aw_seq ?_
  refine aw_region ?_
  intro w0 S0 G a0 w hs
  have ha : Enc w G.S (.sl (.int .u8)) a [a0.eval (.tmp 0)] := hs.val_ (p := []) (x := .tmp 0) holds_nil rfl
  have hb : Enc w G.S (.sl (.int .u8)) b [a0.eval (.tmp 1)] := hs.val_ (p := []) (x := .tmp 1) holds_nil rfl
  have hsz : a0.tmps.size = 8 := hs.size
  refine wpl_val (a0.eval (.tmp 0)) rfl rfl (by rfl) ?_
  refine wpl_val (a0.eval (.tmp 1)) (d := 6) rfl rfl ?_ ?_
  · unfold execOp
    simp only []
    rw [eval_miss (by decide)]
    rfl
  refine wpl_val (.int .i64 (cmpL a b)) (d := 7) rfl rfl ?_ ?_
  · refine run_callVal (c := { callee := .value (.func 47), args := #[.tmp 5, .tmp 6], argTypes := #[22, 22] }) rfl _ rfl fun args hargs => ?_
    have e : args = #[a0.eval (.tmp 0), a0.eval (.tmp 1)] := by
      rw [hargs]
      simp only [List.map_cons, List.map_nil]
      rw [eval_hit (by simp [Act.put, hsz]), eval_miss (by decide), eval_hit (by simp [hsz])]
    rw [e]
    exact ext47 ha hb
  refine wpl_val (.int .i64 (cmpL a b)) (d := 4) rfl rfl ?_ ?_
  · unfold execOp
    simp only []
    rw [eval_hit (by simp [Act.put, hsz])]
    rfl
  have s1 := hs.put (i := 5) (p := []) (x := .v (.c .any)) (v := a0.eval (.tmp 0)) (show (_ : Nat) < 8 by decide) rfl (fun _ => trivial) (fun hn => absurd holds_nil hn)
  have s2 := s1.put (i := 6) (p := []) (x := .v (.c .any)) (v := a0.eval (.tmp 1)) (show (_ : Nat) < 8 by decide) rfl (fun _ => trivial) (fun hn => absurd holds_nil hn)
  have hr := cmpL_range a b
  have hk : (IntKind.i64.min ≤ cmpL a b ∧ cmpL a b ≤ IntKind.i64.max) := by
    simp only [IntKind.min, IntKind.max, IntKind.signed, IntKind.bits]
    simp
    omega
  have s3 := s2.put (i := 7) (p := []) (x := .v (.c .any)) (v := .int .i64 (cmpL a b)) (show (_ : Nat) < 8 by decide) rfl (fun _ => trivial) (fun hn => absurd holds_nil hn)
  have s4 := s3.put (i := 4) (p := []) (x := .v (.c (.p (.int .i64) (cmpL a b)))) (v := .int .i64 (cmpL a b)) (show (_ : Nat) < 8 by decide) rfl (fun _ => ⟨rfl, hk⟩) (fun hn => absurd holds_nil hn)
  refine ⟨G, _, s4, thenQ_n (aw_ret ?_)⟩
  exact retQ_r (σ := Int) (ob := (True ∧ True)) (R := (fun y => [toV1 (.int .i64) y])) (cmpL a b) (by rfl) ⟨trivial, trivial⟩ h

-- coppicer/lyndon.Is
def VC27_k1 (w : (List Int)) (K : Bool × Int → Prop) : Prop :=
  K ((decide ((0 : Int) < (w.length : Int))), (0 : Int))

def VC27_l1 (w : (List Int)) (K : Bool × Int → Prop) (i : Int) (X1 : Int → Prop) : Prop :=
  (((decide (i < (w.length : Int))) = true → ((0 ≤ i ∧ i ≤ (w.length : Int)) ∧ VC43 w (w.drop (i).toNat) (fun (ret22v : Int) => (((decide ((0 : Int) ≤ ret22v)) = true → K (false, (0 : Int))) ∧ ((decide ((0 : Int) ≤ ret22v)) = false → (InR (i + (1 : Int)) ∧ X1 (i + (1 : Int)))))))) ∧ ((decide (i < (w.length : Int))) = false → VC27_k1 w K))

def VC27 (w : (List Int)) (K : Bool × Int → Prop) : Prop :=
  VC38 [w] (fun (ret8v : Int) => (((!decide (ret8v = (0 : Int))) = true → K (false, ret8v)) ∧ ((!decide (ret8v = (0 : Int))) = false → Loop (σ := Int) (fun s X => VC27_l1 w K s X) (1 : Int))))

set_option maxHeartbeats 4000000 in
theorem link27 (w : (List Int)) (K : Bool × Int → Prop) (h : VC27 w K) : ACalls Try.prog 27 [toV1 (.sl (.int .u8)) w] (fun res => ∃ y, res = (fun y => [toV1 .bool y.1, toV1 (.int .i64) y.2]) y ∧ K y) := by
  refine acalls_of_aw [.bool, (.int .i64)] [.t 2, .t 3] Try.func27 rfl rfl rfl ?_
  unfold VC27 at h
  refine aw_seq ?_
  refine aw_region ?_
  refine awl_runp 2 [0] [] (ob := (True ∧ True ∧ True)) (st' := (⟨27, [(0, [], .v (.c (.p (.sl (.int .u8)) w)))], []⟩ : St)) (by kernel_rfl) ⟨trivial, trivial, trivial⟩ ?_
  refine awl_nil ?_
  refine thenQ_n ?_
  refine aw_seq ?_
  refine aw_seq ?_
  refine aw_region ?_
  refine awl_runp 2 [0, 7] [7] (ob := (True ∧ True ∧ True)) (st' := (⟨27, [(0, [], .v (.c (.p (.sl (.int .u8)) w))), (7, [], .v (.c (.own 7)))], [(7, [], .arr 22 (.sl (.int .u8)) [w])]⟩ : St)) (by kernel_rfl) ⟨trivial, trivial, trivial⟩ ?_
  refine awl_callk (p := []) (l := [toV1 (.sl (.sl (.int .u8))) [w]]) (cl := []) true [.d (.sl (.sl (.int .u8)))] [0, 8] [] (fun (ret8v : Int) => (((!decide (ret8v = (0 : Int))) = true → K (false, ret8v)) ∧ ((!decide (ret8v = (0 : Int))) = false → Loop (σ := Int) (fun s X => VC27_l1 w K s X) (1 : Int)))) (fun ret8v => [toV1 (.int .i64) ret8v]) (fun ret8v => (⟨27, [(0, [], .v (.c (.p (.sl (.int .u8)) w))), (8, [], .v (.c (.p (.int .i64) ret8v)))], []⟩ : St)) (by kernel_rfl) rfl (by kernel_rfl) rfl (by kernel_rfl) Try.call38 (by kernel_rfl) (fun ret8v => by kernel_rfl) (fun _ _ => rfl) (fun hg => link38 [w] _ h) (fun hg => noF hg) (fun ret8v h => ?_)
  have h : (((!decide (ret8v = (0 : Int))) = true → K (false, ret8v)) ∧ ((!decide (ret8v = (0 : Int))) = false → Loop (σ := Int) (fun s X => VC27_l1 w K s X) (1 : Int))) := h
  refine awl_runp 1 [0, 4] [] (ob := (True ∧ True)) (st' := (⟨27, [(0, [], .v (.c (.p (.sl (.int .u8)) w))), (4, [], .v (.c (.p (.int .i64) ret8v)))], []⟩ : St)) (by kernel_rfl) ⟨trivial, trivial⟩ ?_
  refine awl_nil ?_
  refine thenQ_n ?_
  refine aw_seq ?_
  refine aw_region ?_
  refine awl_runp 2 [0, 4, 10] [] (ob := (True ∧ True ∧ True)) (st' := (⟨27, [(0, [], .v (.c (.p (.sl (.int .u8)) w))), (4, [], .v (.c (.p (.int .i64) ret8v))), (10, [], .v (.c (.p .bool (!decide (ret8v = (0 : Int))))))], []⟩ : St)) (by kernel_rfl) ⟨trivial, trivial, trivial⟩ ?_
  refine awl_nil ?_
  refine thenQ_n ?_
  refine aw_cond (b := (!decide (ret8v = (0 : Int)))) (by kernel_rfl) (fun hb => ?_) (fun hb => ?_)
  · have h := h.1 hb
    refine aw_seq ?_
    refine aw_region ?_
    refine awl_runp 3 [2, 3] [] (ob := (True ∧ True ∧ True ∧ True)) (st' := (⟨27, [(2, [], .v (.c (.p .bool false))), (3, [], .v (.c (.p (.int .i64) ret8v)))], []⟩ : St)) (by kernel_rfl) ⟨trivial, trivial, trivial, trivial⟩ ?_
    refine awl_nil ?_
    refine thenQ_n ?_
    refine aw_ret ?_
    refine thenQ_r ?_
    exact retQ_r (σ := Bool × Int) (R := (fun y => [toV1 .bool y.1, toV1 (.int .i64) y.2])) (ob := (True ∧ True ∧ True)) (false, ret8v) (by kernel_rfl) ⟨trivial, trivial, trivial⟩ h
  · have h := h.2 hb
    refine aw_skip ?_
    refine thenQ_n ?_
    refine aw_seq ?_
    refine aw_seq ?_
    refine aw_region ?_
    refine awl_runp 1 [0, 5] [] (ob := (True ∧ True)) (st' := (⟨27, [(0, [], .v (.c (.p (.sl (.int .u8)) w))), (5, [], .v (.c (.p (.int .i64) (1 : Int))))], []⟩ : St)) (by kernel_rfl) ⟨trivial, trivial⟩ ?_
    refine awl_nil ?_
    refine thenQ_n ?_
    refine withJoin (σ := Unit) (fun s => (⟨27, [(0, [], .v (.c (.p (.sl (.int .u8)) w)))], []⟩ : St)) (fun s => VC27_k1 w K) (fun s h => ?_) (fun rest1 => ?_)
    · have h : VC27_k1 w K := h
      unfold VC27_k1 at h
      refine thenQ_n ?_
      refine aw_seq ?_
      refine aw_region ?_
      refine awl_runp 5 [2, 3] [] (ob := (True ∧ True ∧ True ∧ True ∧ True ∧ True)) (st' := (⟨27, [(2, [], .v (.c (.p .bool (decide ((0 : Int) < (w.length : Int)))))), (3, [], .v (.c (.p (.int .i64) (0 : Int))))], []⟩ : St)) (by kernel_rfl) ⟨trivial, trivial, trivial, trivial, trivial, trivial⟩ ?_
      refine awl_nil ?_
      refine thenQ_n ?_
      refine aw_ret ?_
      exact retQ_r (σ := Bool × Int) (R := (fun y => [toV1 .bool y.1, toV1 (.int .i64) y.2])) (ob := (True ∧ True ∧ True)) ((decide ((0 : Int) < (w.length : Int))), (0 : Int)) (by kernel_rfl) ⟨trivial, trivial, trivial⟩ h
    · refine aw_block ?_
      refine aw_loop (σ := Int) (fun s => (⟨27, [(0, [], .v (.c (.p (.sl (.int .u8)) w))), (5, [], .v (.c (.p (.int .i64) s)))], []⟩ : St)) (fun s X => VC27_l1 w K s X) (s0 := (1 : Int)) (fun i X1 h => ?_) h
      have h : VC27_l1 w K i X1 := h
      unfold VC27_l1 at h
      refine aw_seq ?_
      refine aw_seq ?_
      refine aw_region ?_
      refine awl_runp 4 [0, 5, 15] [] (ob := (True ∧ True ∧ True ∧ True ∧ True)) (st' := (⟨27, [(0, [], .v (.c (.p (.sl (.int .u8)) w))), (5, [], .v (.c (.p (.int .i64) i))), (15, [], .v (.c (.p .bool (decide (i < (w.length : Int))))))], []⟩ : St)) (by kernel_rfl) ⟨trivial, trivial, trivial, trivial, trivial⟩ ?_
      refine awl_nil ?_
      refine thenQ_n ?_
      refine aw_cond (b := (decide (i < (w.length : Int)))) (by kernel_rfl) (fun hb => ?_) (fun hb => ?_)
      · have h := h.1 hb
        refine aw_skip ?_
        refine thenQ_n ?_
        refine aw_seq ?_
        refine aw_block ?_
        refine aw_seq ?_
        refine aw_region ?_
        obtain ⟨o1, h⟩ := h
        refine awl_runp 4 [0, 5, 18, 21] [] (ob := (True ∧ True ∧ True ∧ (0 ≤ i ∧ i ≤ (w.length : Int)) ∧ True)) (st' := (⟨27, [(0, [], .v (.c (.p (.sl (.int .u8)) w))), (5, [], .v (.c (.p (.int .i64) i))), (18, [], .v (.c (.p (.sl (.int .u8)) w))), (21, [], .v (.c (.p (.sl (.int .u8)) (w.drop (i).toNat))))], []⟩ : St)) (by kernel_rfl) ⟨trivial, trivial, trivial, o1, trivial⟩ ?_
        refine awl_callk (p := []) (l := [toV1 (.sl (.int .u8)) w, toV1 (.sl (.int .u8)) (w.drop (i).toNat)]) (cl := []) false [.d (.sl (.int .u8)), .d (.sl (.int .u8))] [0, 5, 22] [] (fun (ret22v : Int) => (((decide ((0 : Int) ≤ ret22v)) = true → K (false, (0 : Int))) ∧ ((decide ((0 : Int) ≤ ret22v)) = false → (InR (i + (1 : Int)) ∧ X1 (i + (1 : Int)))))) (fun ret22v => [toV1 (.int .i64) ret22v]) (fun ret22v => (⟨27, [(0, [], .v (.c (.p (.sl (.int .u8)) w))), (5, [], .v (.c (.p (.int .i64) i))), (22, [], .v (.c (.p (.int .i64) ret22v)))], []⟩ : St)) (by kernel_rfl) rfl (by kernel_rfl) rfl (by kernel_rfl) Try.call43 (by kernel_rfl) (fun ret22v => by kernel_rfl) (fun e => by cases e) (fun hg => link43 w (w.drop (i).toNat) _ h) (fun hg => noF hg) (fun ret22v h => ?_)
        have h : (((decide ((0 : Int) ≤ ret22v)) = true → K (false, (0 : Int))) ∧ ((decide ((0 : Int) ≤ ret22v)) = false → (InR (i + (1 : Int)) ∧ X1 (i + (1 : Int))))) := h
        refine awl_runp 1 [0, 5, 23] [] (ob := (True ∧ True)) (st' := (⟨27, [(0, [], .v (.c (.p (.sl (.int .u8)) w))), (5, [], .v (.c (.p (.int .i64) i))), (23, [], .v (.c (.p .bool (decide ((0 : Int) ≤ ret22v)))))], []⟩ : St)) (by kernel_rfl) ⟨trivial, trivial⟩ ?_
        refine awl_nil ?_
        refine thenQ_n ?_
        refine aw_cond (b := (decide ((0 : Int) ≤ ret22v))) (by kernel_rfl) (fun hb => ?_) (fun hb => ?_)
        · have h := h.1 hb
          refine aw_seq ?_
          refine aw_region ?_
          refine awl_runp 2 [2, 3] [] (ob := (True ∧ True ∧ True)) (st' := (⟨27, [(2, [], .v (.c (.p .bool false))), (3, [], .v (.c (.p (.int .i64) (0 : Int))))], []⟩ : St)) (by kernel_rfl) ⟨trivial, trivial, trivial⟩ ?_
          refine awl_nil ?_
          refine thenQ_n ?_
          refine aw_ret ?_
          refine blockQ_r ?_
          refine thenQ_r ?_
          refine thenQ_r ?_
          refine blockQ_r ?_
          refine thenQ_r ?_
          exact retQ_r (σ := Bool × Int) (R := (fun y => [toV1 .bool y.1, toV1 (.int .i64) y.2])) (ob := (True ∧ True ∧ True)) (false, (0 : Int)) (by kernel_rfl) ⟨trivial, trivial, trivial⟩ h
        · have h := h.2 hb
          refine aw_skip ?_
          refine blockQ_n ?_
          refine thenQ_n ?_
          refine aw_region ?_
          obtain ⟨o1, h⟩ := h
          refine awl_runp 3 [0, 5] [] (ob := (True ∧ InR (i + (1 : Int)) ∧ True ∧ True)) (st' := (⟨27, [(0, [], .v (.c (.p (.sl (.int .u8)) w))), (5, [], .v (.c (.p (.int .i64) (i + (1 : Int)))))], []⟩ : St)) (by kernel_rfl) ⟨trivial, o1, trivial, trivial⟩ ?_
          refine awl_nil ?_
          exact thenQ_n ⟨(i + (1 : Int)), rfl, h⟩
      · have h := h.2 hb
        refine aw_conv [.prune [0] []] (st' := (⟨27, [(0, [], .v (.c (.p (.sl (.int .u8)) w)))], []⟩ : St)) (by kernel_rfl) ?_
        refine aw_exit ?_
        refine thenQ_x ?_
        refine thenQ_x ?_
        refine blockQ_hit ?_
        exact rest1 () h

-- coppicer/coppicerkeep.long
def VC16_k1 (K : Bool → Prop) : Prop :=
  K false

def VC16_l1 (words : (List (List Int))) (K : Bool → Prop) (v7 : Int) (X1 : Int → Prop) : Prop :=
  (((decide (v7 < (words.length : Int))) = true → (inIdx v7 words.length ∧ (((decide ((60 : Int) < ((words.getD (v7).toNat ([] : (List Int))).length : Int))) = true → K true) ∧ ((decide ((60 : Int) < ((words.getD (v7).toNat ([] : (List Int))).length : Int))) = false → (InR (v7 + (1 : Int)) ∧ X1 (v7 + (1 : Int))))))) ∧ ((decide (v7 < (words.length : Int))) = false → VC16_k1 K))

def VC16 (words : (List (List Int))) (K : Bool → Prop) : Prop :=
  Loop (σ := Int) (fun s X => VC16_l1 words K s X) (0 : Int)

set_option maxHeartbeats 4000000 in
theorem link16 (words : (List (List Int))) (K : Bool → Prop) (h : VC16 words K) : ACalls Try.prog 16 [toV1 (.sl (.sl (.int .u8))) words] (fun res => ∃ y, res = (fun y => [toV1 .bool y]) y ∧ K y) := by
  refine acalls_of_aw [.bool] [.t 2] Try.func16 rfl rfl rfl ?_
  unfold VC16 at h
  refine aw_seq ?_
  refine aw_region ?_
  refine awl_runp 1 [0] [] (ob := (True ∧ True)) (st' := (⟨15, [(0, [], .v (.c (.p (.sl (.sl (.int .u8))) words)))], []⟩ : St)) (by kernel_rfl) ⟨trivial, trivial⟩ ?_
  refine awl_nil ?_
  refine thenQ_n ?_
  refine aw_seq ?_
  refine aw_seq ?_
  refine aw_region ?_
  refine awl_runp 3 [5, 6, 7] [] (ob := (True ∧ True ∧ True ∧ True)) (st' := (⟨15, [(5, [], .v (.c (.p (.sl (.sl (.int .u8))) words))), (6, [], .v (.c (.p (.int .i64) (words.length : Int)))), (7, [], .v (.c (.p (.int .i64) (0 : Int))))], []⟩ : St)) (by kernel_rfl) ⟨trivial, trivial, trivial, trivial⟩ ?_
  refine awl_nil ?_
  refine thenQ_n ?_
  refine withJoin (σ := Unit) (fun s => (⟨15, [], []⟩ : St)) (fun s => VC16_k1 K) (fun s h => ?_) (fun rest1 => ?_)
  · have h : VC16_k1 K := h
    unfold VC16_k1 at h
    refine thenQ_n ?_
    refine aw_seq ?_
    refine aw_region ?_
    refine awl_runp 1 [2] [] (ob := (True ∧ True)) (st' := (⟨15, [(2, [], .v (.c (.p .bool false)))], []⟩ : St)) (by kernel_rfl) ⟨trivial, trivial⟩ ?_
    refine awl_nil ?_
    refine thenQ_n ?_
    refine aw_ret ?_
    exact retQ_r (σ := Bool) (R := (fun y => [toV1 .bool y])) (ob := (True ∧ True)) false (by kernel_rfl) ⟨trivial, trivial⟩ h
  · refine aw_block ?_
    refine aw_loop (σ := Int) (fun s => (⟨15, [(5, [], .v (.c (.p (.sl (.sl (.int .u8))) words))), (6, [], .v (.c (.p (.int .i64) (words.length : Int)))), (7, [], .v (.c (.p (.int .i64) s)))], []⟩ : St)) (fun s X => VC16_l1 words K s X) (s0 := (0 : Int)) (fun v7 X1 h => ?_) h
    have h : VC16_l1 words K v7 X1 := h
    unfold VC16_l1 at h
    refine aw_seq ?_
    refine aw_region ?_
    refine awl_runp 1 [5, 6, 7, 8] [] (ob := (True ∧ True)) (st' := (⟨15, [(5, [], .v (.c (.p (.sl (.sl (.int .u8))) words))), (6, [], .v (.c (.p (.int .i64) (words.length : Int)))), (7, [], .v (.c (.p (.int .i64) v7))), (8, [], .v (.c (.p .bool (decide (v7 < (words.length : Int))))))], []⟩ : St)) (by kernel_rfl) ⟨trivial, trivial⟩ ?_
    refine awl_nil ?_
    refine thenQ_n ?_
    refine aw_seq ?_
    refine aw_cond (b := (decide (v7 < (words.length : Int)))) (by kernel_rfl) (fun hb => ?_) (fun hb => ?_)
    · have h := h.1 hb
      refine aw_skip ?_
      refine thenQ_n ?_
      refine aw_seq ?_
      refine aw_block ?_
      refine aw_seq ?_
      refine aw_region ?_
      obtain ⟨o1, h⟩ := h
      refine awl_runp 3 [4, 5, 6, 7] [] (ob := (inIdx v7 words.length ∧ True ∧ True ∧ True)) (st' := (⟨15, [(4, [], .v (.c (.p (.sl (.int .u8)) (words.getD (v7).toNat ([] : (List Int)))))), (5, [], .v (.c (.p (.sl (.sl (.int .u8))) words))), (6, [], .v (.c (.p (.int .i64) (words.length : Int)))), (7, [], .v (.c (.p (.int .i64) v7)))], []⟩ : St)) (by kernel_rfl) ⟨o1, trivial, trivial, trivial⟩ ?_
      refine awl_nil ?_
      refine thenQ_n ?_
      refine aw_seq ?_
      refine aw_region ?_
      refine awl_runp 3 [5, 6, 7, 13] [] (ob := (True ∧ True ∧ True ∧ True)) (st' := (⟨15, [(5, [], .v (.c (.p (.sl (.sl (.int .u8))) words))), (6, [], .v (.c (.p (.int .i64) (words.length : Int)))), (7, [], .v (.c (.p (.int .i64) v7))), (13, [], .v (.c (.p .bool (decide ((60 : Int) < ((words.getD (v7).toNat ([] : (List Int))).length : Int))))))], []⟩ : St)) (by kernel_rfl) ⟨trivial, trivial, trivial, trivial⟩ ?_
      refine awl_nil ?_
      refine thenQ_n ?_
      refine aw_cond (b := (decide ((60 : Int) < ((words.getD (v7).toNat ([] : (List Int))).length : Int)))) (by kernel_rfl) (fun hb => ?_) (fun hb => ?_)
      · have h := h.1 hb
        refine aw_seq ?_
        refine aw_region ?_
        refine awl_runp 1 [2] [] (ob := (True ∧ True)) (st' := (⟨15, [(2, [], .v (.c (.p .bool true)))], []⟩ : St)) (by kernel_rfl) ⟨trivial, trivial⟩ ?_
        refine awl_nil ?_
        refine thenQ_n ?_
        refine aw_ret ?_
        refine blockQ_r ?_
        refine thenQ_r ?_
        refine thenQ_r ?_
        refine blockQ_r ?_
        refine thenQ_r ?_
        exact retQ_r (σ := Bool) (R := (fun y => [toV1 .bool y])) (ob := (True ∧ True)) true (by kernel_rfl) ⟨trivial, trivial⟩ h
      · have h := h.2 hb
        refine aw_skip ?_
        refine blockQ_n ?_
        refine thenQ_n ?_
        refine aw_region ?_
        obtain ⟨o1, h⟩ := h
        refine awl_runp 2 [5, 6, 7] [] (ob := (InR (v7 + (1 : Int)) ∧ True ∧ True)) (st' := (⟨15, [(5, [], .v (.c (.p (.sl (.sl (.int .u8))) words))), (6, [], .v (.c (.p (.int .i64) (words.length : Int)))), (7, [], .v (.c (.p (.int .i64) (v7 + (1 : Int)))))], []⟩ : St)) (by kernel_rfl) ⟨o1, trivial, trivial⟩ ?_
        refine awl_nil ?_
        exact thenQ_n ⟨(v7 + (1 : Int)), rfl, h⟩
    · have h := h.2 hb
      refine aw_conv [.prune [] []] (st' := (⟨15, [], []⟩ : St)) (by kernel_rfl) ?_
      refine aw_exit ?_
      refine thenQ_x ?_
      refine thenQ_x ?_
      refine blockQ_hit ?_
      exact rest1 () h

-- coppicer/coppicerref.Less
def VC29_k1 (a : (List Int)) (b : (List Int)) (K : Bool → Prop) : Prop :=
  K (decide ((a.length : Int) < (b.length : Int)))

def VC29_l1 (a : (List Int)) (b : (List Int)) (K : Bool → Prop) (i : Int) (X1 : Int → Prop) : Prop :=
  ((((decide (i < (a.length : Int))) && (decide (i < (b.length : Int)))) = true → (inIdx i a.length ∧ inIdx i b.length ∧ (((!decide ((a.getD (i).toNat (0 : Int)) = (b.getD (i).toNat (0 : Int)))) = true → (inIdx i a.length ∧ inIdx i b.length ∧ K (decide ((a.getD (i).toNat (0 : Int)) < (b.getD (i).toNat (0 : Int)))))) ∧ ((!decide ((a.getD (i).toNat (0 : Int)) = (b.getD (i).toNat (0 : Int)))) = false → (InR (i + (1 : Int)) ∧ X1 (i + (1 : Int))))))) ∧ (((decide (i < (a.length : Int))) && (decide (i < (b.length : Int)))) = false → VC29_k1 a b K))

def VC29 (a : (List Int)) (b : (List Int)) (K : Bool → Prop) : Prop :=
  Loop (σ := Int) (fun s X => VC29_l1 a b K s X) (0 : Int)

set_option maxHeartbeats 4000000 in
theorem link29 (a : (List Int)) (b : (List Int)) (K : Bool → Prop) (h : VC29 a b K) : ACalls Try.prog 29 [toV1 (.sl (.int .u8)) a, toV1 (.sl (.int .u8)) b] (fun res => ∃ y, res = (fun y => [toV1 .bool y]) y ∧ K y) := by
  refine acalls_of_aw [.bool] [.t 4] Try.func29 rfl rfl rfl ?_
  unfold VC29 at h
  refine aw_seq ?_
  refine aw_region ?_
  refine awl_runp 1 [0, 1] [] (ob := (True ∧ True)) (st' := (⟨41, [(0, [], .v (.c (.p (.sl (.int .u8)) a))), (1, [], .v (.c (.p (.sl (.int .u8)) b)))], []⟩ : St)) (by kernel_rfl) ⟨trivial, trivial⟩ ?_
  refine awl_nil ?_
  refine thenQ_n ?_
  refine aw_seq ?_
  refine aw_seq ?_
  refine aw_region ?_
  refine awl_runp 1 [0, 1, 5] [] (ob := (True ∧ True)) (st' := (⟨41, [(0, [], .v (.c (.p (.sl (.int .u8)) a))), (1, [], .v (.c (.p (.sl (.int .u8)) b))), (5, [], .v (.c (.p (.int .i64) (0 : Int))))], []⟩ : St)) (by kernel_rfl) ⟨trivial, trivial⟩ ?_
  refine awl_nil ?_
  refine thenQ_n ?_
  refine withJoin (σ := Unit) (fun s => (⟨41, [(0, [], .v (.c (.p (.sl (.int .u8)) a))), (1, [], .v (.c (.p (.sl (.int .u8)) b)))], []⟩ : St)) (fun s => VC29_k1 a b K) (fun s h => ?_) (fun rest1 => ?_)
  · have h : VC29_k1 a b K := h
    unfold VC29_k1 at h
    refine thenQ_n ?_
    refine aw_seq ?_
    refine aw_region ?_
    refine awl_runp 6 [4] [] (ob := (True ∧ True ∧ True ∧ True ∧ True ∧ True ∧ True)) (st' := (⟨41, [(4, [], .v (.c (.p .bool (decide ((a.length : Int) < (b.length : Int))))))], []⟩ : St)) (by kernel_rfl) ⟨trivial, trivial, trivial, trivial, trivial, trivial, trivial⟩ ?_
    refine awl_nil ?_
    refine thenQ_n ?_
    refine aw_ret ?_
    exact retQ_r (σ := Bool) (R := (fun y => [toV1 .bool y])) (ob := (True ∧ True)) (decide ((a.length : Int) < (b.length : Int))) (by kernel_rfl) ⟨trivial, trivial⟩ h
  · refine aw_block ?_
    refine aw_loop (σ := Int) (fun s => (⟨41, [(0, [], .v (.c (.p (.sl (.int .u8)) a))), (1, [], .v (.c (.p (.sl (.int .u8)) b))), (5, [], .v (.c (.p (.int .i64) s)))], []⟩ : St)) (fun s X => VC29_l1 a b K s X) (s0 := (0 : Int)) (fun i X1 h => ?_) h
    have h : VC29_l1 a b K i X1 := h
    unfold VC29_l1 at h
    refine aw_seq ?_
    refine aw_seq ?_
    refine aw_region ?_
    refine awl_runp 10 [0, 1, 5, 15] [] (ob := (True ∧ True ∧ True ∧ True ∧ True ∧ ((decide (i < (a.length : Int))) = true → True) ∧ ((decide (i < (a.length : Int))) = true → True) ∧ ((decide (i < (a.length : Int))) = true → True) ∧ ((decide (i < (a.length : Int))) = true → True) ∧ True ∧ True)) (st' := (⟨41, [(0, [], .v (.c (.p (.sl (.int .u8)) a))), (1, [], .v (.c (.p (.sl (.int .u8)) b))), (5, [], .v (.c (.p (.int .i64) i))), (15, [], .v (.c (.p .bool ((decide (i < (a.length : Int))) && (decide (i < (b.length : Int)))))))], []⟩ : St)) (by kernel_rfl) ⟨trivial, trivial, trivial, trivial, trivial, (fun _ => trivial), (fun _ => trivial), (fun _ => trivial), (fun _ => trivial), trivial, trivial⟩ ?_
    refine awl_nil ?_
    refine thenQ_n ?_
    refine aw_cond (b := ((decide (i < (a.length : Int))) && (decide (i < (b.length : Int))))) (by kernel_rfl) (fun hb => ?_) (fun hb => ?_)
    · have h := h.1 hb
      refine aw_skip ?_
      refine thenQ_n ?_
      refine aw_seq ?_
      refine aw_block ?_
      refine aw_seq ?_
      refine awd_begin [] (by kernel_rfl) ?_
      obtain ⟨o1, o2, h⟩ := h
      refine awd_runp (by kernel_rfl) [0, 1, 2, 3, 4, 5, 6, 7, 8] [0, 1, 5, 26] [] (ob := (True ∧ True ∧ inIdx i a.length ∧ True ∧ True ∧ True ∧ inIdx i b.length ∧ True ∧ True ∧ True)) (done' := [8, 7, 6, 5, 4, 3, 2, 1, 0]) (st' := (⟨41, [(0, [], .v (.c (.p (.sl (.int .u8)) a))), (1, [], .v (.c (.p (.sl (.int .u8)) b))), (5, [], .v (.c (.p (.int .i64) i))), (26, [], .v (.c (.p .bool (!decide ((a.getD (i).toNat (0 : Int)) = (b.getD (i).toNat (0 : Int)))))))], []⟩ : St)) (by kernel_rfl) ⟨trivial, trivial, o1, trivial, trivial, trivial, o2, trivial, trivial, trivial⟩ ?_
      refine awd_done (by kernel_rfl) ?_
      refine thenQ_n ?_
      refine aw_cond (b := (!decide ((a.getD (i).toNat (0 : Int)) = (b.getD (i).toNat (0 : Int))))) (by kernel_rfl) (fun hb => ?_) (fun hb => ?_)
      · have h := h.1 hb
        refine aw_seq ?_
        refine awd_begin [] (by kernel_rfl) ?_
        obtain ⟨o1, o2, h⟩ := h
        refine awd_runp (by kernel_rfl) [0, 1, 2, 3, 4, 5, 6, 7, 8, 9] [4] [] (ob := (True ∧ True ∧ inIdx i a.length ∧ True ∧ True ∧ True ∧ inIdx i b.length ∧ True ∧ True ∧ True ∧ True)) (done' := [9, 8, 7, 6, 5, 4, 3, 2, 1, 0]) (st' := (⟨41, [(4, [], .v (.c (.p .bool (decide ((a.getD (i).toNat (0 : Int)) < (b.getD (i).toNat (0 : Int)))))))], []⟩ : St)) (by kernel_rfl) ⟨trivial, trivial, o1, trivial, trivial, trivial, o2, trivial, trivial, trivial, trivial⟩ ?_
        refine awd_done (by kernel_rfl) ?_
        refine thenQ_n ?_
        refine aw_ret ?_
        refine blockQ_r ?_
        refine thenQ_r ?_
        refine thenQ_r ?_
        refine blockQ_r ?_
        refine thenQ_r ?_
        exact retQ_r (σ := Bool) (R := (fun y => [toV1 .bool y])) (ob := (True ∧ True)) (decide ((a.getD (i).toNat (0 : Int)) < (b.getD (i).toNat (0 : Int)))) (by kernel_rfl) ⟨trivial, trivial⟩ h
      · have h := h.2 hb
        refine aw_skip ?_
        refine blockQ_n ?_
        refine thenQ_n ?_
        refine aw_region ?_
        obtain ⟨o1, h⟩ := h
        refine awl_runp 3 [0, 1, 5] [] (ob := (True ∧ InR (i + (1 : Int)) ∧ True ∧ True)) (st' := (⟨41, [(0, [], .v (.c (.p (.sl (.int .u8)) a))), (1, [], .v (.c (.p (.sl (.int .u8)) b))), (5, [], .v (.c (.p (.int .i64) (i + (1 : Int)))))], []⟩ : St)) (by kernel_rfl) ⟨trivial, o1, trivial, trivial⟩ ?_
        refine awl_nil ?_
        exact thenQ_n ⟨(i + (1 : Int)), rfl, h⟩
    · have h := h.2 hb
      refine aw_conv [.prune [0, 1] []] (st' := (⟨41, [(0, [], .v (.c (.p (.sl (.int .u8)) a))), (1, [], .v (.c (.p (.sl (.int .u8)) b)))], []⟩ : St)) (by kernel_rfl) ?_
      refine aw_exit ?_
      refine thenQ_x ?_
      refine thenQ_x ?_
      refine blockQ_hit ?_
      exact rest1 () h

-- coppicer/coppicerref.Low
def VC28_k1 (w : (List Int)) (K : Bool → Prop) : Prop :=
  K (decide ((0 : Int) < (w.length : Int)))

def VC28_l1 (w : (List Int)) (K : Bool → Prop) (i : Int) (X1 : Int → Prop) : Prop :=
  (((decide (i < (w.length : Int))) = true → ((0 ≤ i ∧ i ≤ (w.length : Int)) ∧ VC29 w (w.drop (i).toNat) (fun (ret14v : Bool) => (((!ret14v) = true → K false) ∧ ((!ret14v) = false → (InR (i + (1 : Int)) ∧ X1 (i + (1 : Int)))))))) ∧ ((decide (i < (w.length : Int))) = false → VC28_k1 w K))

def VC28 (w : (List Int)) (K : Bool → Prop) : Prop :=
  Loop (σ := Int) (fun s X => VC28_l1 w K s X) (1 : Int)

set_option maxHeartbeats 4000000 in
theorem link28 (w : (List Int)) (K : Bool → Prop) (h : VC28 w K) : ACalls Try.prog 28 [toV1 (.sl (.int .u8)) w] (fun res => ∃ y, res = (fun y => [toV1 .bool y]) y ∧ K y) := by
  refine acalls_of_aw [.bool] [.t 2] Try.func28 rfl rfl rfl ?_
  unfold VC28 at h
  refine aw_seq ?_
  refine aw_region ?_
  refine awl_runp 1 [0] [] (ob := (True ∧ True)) (st' := (⟨19, [(0, [], .v (.c (.p (.sl (.int .u8)) w)))], []⟩ : St)) (by kernel_rfl) ⟨trivial, trivial⟩ ?_
  refine awl_nil ?_
  refine thenQ_n ?_
  refine aw_seq ?_
  refine aw_seq ?_
  refine aw_region ?_
  refine awl_runp 1 [0, 3] [] (ob := (True ∧ True)) (st' := (⟨19, [(0, [], .v (.c (.p (.sl (.int .u8)) w))), (3, [], .v (.c (.p (.int .i64) (1 : Int))))], []⟩ : St)) (by kernel_rfl) ⟨trivial, trivial⟩ ?_
  refine awl_nil ?_
  refine thenQ_n ?_
  refine withJoin (σ := Unit) (fun s => (⟨19, [(0, [], .v (.c (.p (.sl (.int .u8)) w)))], []⟩ : St)) (fun s => VC28_k1 w K) (fun s h => ?_) (fun rest1 => ?_)
  · have h : VC28_k1 w K := h
    unfold VC28_k1 at h
    refine thenQ_n ?_
    refine aw_seq ?_
    refine aw_region ?_
    refine awl_runp 4 [2] [] (ob := (True ∧ True ∧ True ∧ True ∧ True)) (st' := (⟨19, [(2, [], .v (.c (.p .bool (decide ((0 : Int) < (w.length : Int))))))], []⟩ : St)) (by kernel_rfl) ⟨trivial, trivial, trivial, trivial, trivial⟩ ?_
    refine awl_nil ?_
    refine thenQ_n ?_
    refine aw_ret ?_
    exact retQ_r (σ := Bool) (R := (fun y => [toV1 .bool y])) (ob := (True ∧ True)) (decide ((0 : Int) < (w.length : Int))) (by kernel_rfl) ⟨trivial, trivial⟩ h
  · refine aw_block ?_
    refine aw_loop (σ := Int) (fun s => (⟨19, [(0, [], .v (.c (.p (.sl (.int .u8)) w))), (3, [], .v (.c (.p (.int .i64) s)))], []⟩ : St)) (fun s X => VC28_l1 w K s X) (s0 := (1 : Int)) (fun i X1 h => ?_) h
    have h : VC28_l1 w K i X1 := h
    unfold VC28_l1 at h
    refine aw_seq ?_
    refine aw_seq ?_
    refine aw_region ?_
    refine awl_runp 4 [0, 3, 7] [] (ob := (True ∧ True ∧ True ∧ True ∧ True)) (st' := (⟨19, [(0, [], .v (.c (.p (.sl (.int .u8)) w))), (3, [], .v (.c (.p (.int .i64) i))), (7, [], .v (.c (.p .bool (decide (i < (w.length : Int))))))], []⟩ : St)) (by kernel_rfl) ⟨trivial, trivial, trivial, trivial, trivial⟩ ?_
    refine awl_nil ?_
    refine thenQ_n ?_
    refine aw_cond (b := (decide (i < (w.length : Int)))) (by kernel_rfl) (fun hb => ?_) (fun hb => ?_)
    · have h := h.1 hb
      refine aw_skip ?_
      refine thenQ_n ?_
      refine aw_seq ?_
      refine aw_block ?_
      refine aw_seq ?_
      refine aw_region ?_
      obtain ⟨o1, h⟩ := h
      refine awl_runp 4 [0, 3, 10, 13] [] (ob := (True ∧ True ∧ True ∧ (0 ≤ i ∧ i ≤ (w.length : Int)) ∧ True)) (st' := (⟨19, [(0, [], .v (.c (.p (.sl (.int .u8)) w))), (3, [], .v (.c (.p (.int .i64) i))), (10, [], .v (.c (.p (.sl (.int .u8)) w))), (13, [], .v (.c (.p (.sl (.int .u8)) (w.drop (i).toNat))))], []⟩ : St)) (by kernel_rfl) ⟨trivial, trivial, trivial, o1, trivial⟩ ?_
      refine awl_callk (p := []) (l := [toV1 (.sl (.int .u8)) w, toV1 (.sl (.int .u8)) (w.drop (i).toNat)]) (cl := []) false [.d (.sl (.int .u8)), .d (.sl (.int .u8))] [0, 3, 14] [] (fun (ret14v : Bool) => (((!ret14v) = true → K false) ∧ ((!ret14v) = false → (InR (i + (1 : Int)) ∧ X1 (i + (1 : Int)))))) (fun ret14v => [toV1 .bool ret14v]) (fun ret14v => (⟨19, [(0, [], .v (.c (.p (.sl (.int .u8)) w))), (3, [], .v (.c (.p (.int .i64) i))), (14, [], .v (.c (.p .bool ret14v)))], []⟩ : St)) (by kernel_rfl) rfl (by kernel_rfl) rfl (by kernel_rfl) Try.call29 (by kernel_rfl) (fun ret14v => by kernel_rfl) (fun e => by cases e) (fun hg => link29 w (w.drop (i).toNat) _ h) (fun hg => noF hg) (fun ret14v h => ?_)
      have h : (((!ret14v) = true → K false) ∧ ((!ret14v) = false → (InR (i + (1 : Int)) ∧ X1 (i + (1 : Int))))) := h
      refine awl_runp 1 [0, 3, 15] [] (ob := (True ∧ True)) (st' := (⟨19, [(0, [], .v (.c (.p (.sl (.int .u8)) w))), (3, [], .v (.c (.p (.int .i64) i))), (15, [], .v (.c (.p .bool (!ret14v))))], []⟩ : St)) (by kernel_rfl) ⟨trivial, trivial⟩ ?_
      refine awl_nil ?_
      refine thenQ_n ?_
      refine aw_cond (b := (!ret14v)) (by kernel_rfl) (fun hb => ?_) (fun hb => ?_)
      · have h := h.1 hb
        refine aw_seq ?_
        refine aw_region ?_
        refine awl_runp 1 [2] [] (ob := (True ∧ True)) (st' := (⟨19, [(2, [], .v (.c (.p .bool false)))], []⟩ : St)) (by kernel_rfl) ⟨trivial, trivial⟩ ?_
        refine awl_nil ?_
        refine thenQ_n ?_
        refine aw_ret ?_
        refine blockQ_r ?_
        refine thenQ_r ?_
        refine thenQ_r ?_
        refine blockQ_r ?_
        refine thenQ_r ?_
        exact retQ_r (σ := Bool) (R := (fun y => [toV1 .bool y])) (ob := (True ∧ True)) false (by kernel_rfl) ⟨trivial, trivial⟩ h
      · have h := h.2 hb
        refine aw_skip ?_
        refine blockQ_n ?_
        refine thenQ_n ?_
        refine aw_region ?_
        obtain ⟨o1, h⟩ := h
        refine awl_runp 3 [0, 3] [] (ob := (True ∧ InR (i + (1 : Int)) ∧ True ∧ True)) (st' := (⟨19, [(0, [], .v (.c (.p (.sl (.int .u8)) w))), (3, [], .v (.c (.p (.int .i64) (i + (1 : Int)))))], []⟩ : St)) (by kernel_rfl) ⟨trivial, o1, trivial, trivial⟩ ?_
        refine awl_nil ?_
        exact thenQ_n ⟨(i + (1 : Int)), rfl, h⟩
    · have h := h.2 hb
      refine aw_conv [.prune [0] []] (st' := (⟨19, [(0, [], .v (.c (.p (.sl (.int .u8)) w)))], []⟩ : St)) (by kernel_rfl) ?_
      refine aw_exit ?_
      refine thenQ_x ?_
      refine thenQ_x ?_
      refine blockQ_hit ?_
      exact rest1 () h

-- slices.Clone[[]byte,byte]
def VC41 (sv : (List Int)) (K : (List Int) → Prop) : Prop :=
  (∀ nil4 : Bool, (nil4 = true → sv = []) → ((nil4 = true → K ([] : List Int)) ∧ (nil4 = false → (roomN (([] : List Int).length + sv.length) ∧ K (([] : List Int) ++ sv)))))

set_option maxHeartbeats 4000000 in
theorem link41 (sv : (List Int)) (K : (List Int) → Prop) (h : VC41 sv K) : ACallsO Try.prog 41 [toV1 (.sl (.int .u8)) sv] 5 (.int .u8) K := by
  refine acallsO_of_aw 2 Try.func41 rfl rfl rfl ?_
  unfold VC41 at h
  refine aw_seq ?_
  refine aw_region ?_
  refine awl_runp 1 [0] [] (ob := (True ∧ True)) (st' := (⟨8, [(0, [], .v (.c (.p (.sl (.int .u8)) sv)))], []⟩ : St)) (by kernel_rfl) ⟨trivial, trivial⟩ ?_
  refine awl_nil ?_
  refine thenQ_n ?_
  refine aw_seq ?_
  refine aw_seq ?_
  refine aw_region ?_
  refine awl_runp 1 [0, 3] [] (ob := (True ∧ True)) (st' := (⟨8, [(0, [], .v (.c (.p (.sl (.int .u8)) sv))), (3, [], .v (.c (.p (.sl (.int .u8)) sv)))], []⟩ : St)) (by kernel_rfl) ⟨trivial, trivial⟩ ?_
  refine awl_nil_eql [0, 4] [] (fun nil4 => (⟨8, [(0, [], .v (.c (.p (.sl (.int .u8)) sv))), (4, [], .v (.c (.p .bool nil4)))], []⟩ : St)) rfl rfl (by kernel_rfl) rfl (e := 5) (by kernel_rfl) (l := sv) (u := (.int .u8)) (by kernel_rfl) (fun nil4 => by kernel_rfl) (fun nil4 hnil => ?_)
  have h := h nil4 hnil
  refine awl_nil ?_
  refine thenQ_n ?_
  refine aw_cond (b := nil4) (by kernel_rfl) (fun hb => ?_) (fun hb => ?_)
  · have h := h.1 hb
    refine aw_seq ?_
    refine aw_region ?_
    refine awl_runp 1 [2] [] (ob := (True ∧ True)) (st' := (⟨8, [(2, [], .v (.c (.nils)))], []⟩ : St)) (by kernel_rfl) ⟨trivial, trivial⟩ ?_
    refine awl_nil ?_
    refine thenQ_n ?_
    refine aw_conv [.nilOwn 2 5002 5 (.int .u8)] (st' := (⟨8, [(2, [], .v (.c (.own 5002)))], [(5002, [], .arr 5 (.int .u8) ([] : List Int))]⟩ : St)) (by kernel_rfl) ?_
    refine aw_ret ?_
    refine thenQ_r ?_
    exact ⟨5002, _, by kernel_rfl, by kernel_rfl, h⟩
  · have h := h.2 hb
    refine aw_skip ?_
    refine thenQ_n ?_
    refine aw_seq ?_
    refine aw_region ?_
    obtain ⟨o1, h⟩ := h
    refine awl_runp 4 [2] [7] (ob := (True ∧ True ∧ roomN (([] : List Int).length + sv.length) ∧ True ∧ True)) (st' := (⟨8, [(2, [], .v (.c (.own 7)))], [(7, [], .arr 5 (.int .u8) (([] : List Int) ++ sv))]⟩ : St)) (by kernel_rfl) ⟨trivial, trivial, o1, trivial, trivial⟩ ?_
    refine awl_nil ?_
    refine thenQ_n ?_
    refine aw_ret ?_
    exact ⟨7, _, by kernel_rfl, by kernel_rfl, h⟩

-- coppicer/lyndon.Parts
def VC30_k1 (K : (List (List Int)) × Int → Prop) (out : (List (List Int))) : Prop :=
  K (out, (0 : Int))

def VC30_k3 (X1 : Int × (List (List Int)) → Prop) (i2 : Int) (out2 : (List (List Int))) : Prop :=
  X1 (i2, out2)

def VC30_l2 (w : (List Int)) (X1 : Int × (List (List Int)) → Prop) (j : Int) (k : Int) (i2 : Int) (out2 : (List (List Int))) (X2 : Int × (List (List Int)) → Prop) : Prop :=
  (((decide (i2 ≤ k)) = true → (InR (i2 + j) ∧ InR ((i2 + j) - k) ∧ (0 ≤ i2 ∧ i2 ≤ ((i2 + j) - k) ∧ ((i2 + j) - k) ≤ (w.length : Int)) ∧ VC41 ((w.take (((i2 + j) - k)).toNat).drop (i2).toNat) (fun (ret68v : (List Int)) => (roomN (out2.length + [ret68v].length) ∧ (InR (j - k) ∧ InR (i2 + (j - k)) ∧ X2 ((i2 + (j - k)), (out2 ++ [ret68v]))))))) ∧ ((decide (i2 ≤ k)) = false → VC30_k3 X1 i2 out2))

def VC30_k2 (w : (List Int)) (i : Int) (out : (List (List Int))) (X1 : Int × (List (List Int)) → Prop) (j : Int) (k : Int) : Prop :=
  Loop (σ := Int × (List (List Int))) (fun s X => VC30_l2 w X1 j k s.1 s.2 X) (i, out)

def VC30_k4 (j : Int) (X3 : Int × Int → Prop) (k2 : Int) : Prop :=
  (InR (j + (1 : Int)) ∧ X3 ((j + (1 : Int)), k2))

def VC30_l3 (w : (List Int)) (i : Int) (out : (List (List Int))) (X1 : Int × (List (List Int)) → Prop) (j : Int) (k : Int) (X3 : Int × Int → Prop) : Prop :=
  (((decide (j < (w.length : Int))) = true → inIdx k w.length) ∧ ((decide (j < (w.length : Int))) = true → inIdx j w.length) ∧ ((((decide (j < (w.length : Int))) && (decide ((w.getD (k).toNat (0 : Int)) ≤ (w.getD (j).toNat (0 : Int))))) = true → (inIdx k w.length ∧ inIdx j w.length ∧ (((decide ((w.getD (k).toNat (0 : Int)) < (w.getD (j).toNat (0 : Int)))) = true → VC30_k4 j X3 i) ∧ ((decide ((w.getD (k).toNat (0 : Int)) < (w.getD (j).toNat (0 : Int)))) = false → (InR (k + (1 : Int)) ∧ VC30_k4 j X3 (k + (1 : Int))))))) ∧ (((decide (j < (w.length : Int))) && (decide ((w.getD (k).toNat (0 : Int)) ≤ (w.getD (j).toNat (0 : Int))))) = false → VC30_k2 w i out X1 j k)))

def VC30_l1 (w : (List Int)) (K : (List (List Int)) × Int → Prop) (i : Int) (out : (List (List Int))) (X1 : Int × (List (List Int)) → Prop) : Prop :=
  (((decide (i < (w.length : Int))) = true → (InR (i + (1 : Int)) ∧ Loop (σ := Int × Int) (fun s X => VC30_l3 w i out X1 s.1 s.2 X) ((i + (1 : Int)), i))) ∧ ((decide (i < (w.length : Int))) = false → VC30_k1 K out))

def VC30 (w : (List Int)) (K : (List (List Int)) × Int → Prop) : Prop :=
  VC38 [w] (fun (ret11v : Int) => (((!decide (ret11v = (0 : Int))) = true → K (([] : (List (List Int))), ret11v)) ∧ ((!decide (ret11v = (0 : Int))) = false → Loop (σ := Int × (List (List Int))) (fun s X => VC30_l1 w K s.1 s.2 X) ((0 : Int), ([] : List (List Int))))))

set_option maxHeartbeats 4000000 in
theorem link30 (w : (List Int)) (K : (List (List Int)) × Int → Prop) (h : VC30 w K) : ACalls Try.prog 30 [toV1 (.sl (.int .u8)) w] (fun res => ∃ y, res = (fun y => [toV1 (.sl (.sl (.int .u8))) y.1, toV1 (.int .i64) y.2]) y ∧ K y) := by
  refine acalls_of_aw [(.sl (.sl (.int .u8))), (.int .i64)] [.t 2, .t 3] Try.func30 rfl rfl rfl ?_
  unfold VC30 at h
  refine aw_seq ?_
  refine aw_region ?_
  refine awl_runp 2 [0] [] (ob := (True ∧ True ∧ True)) (st' := (⟨72, [(0, [], .v (.c (.p (.sl (.int .u8)) w)))], []⟩ : St)) (by kernel_rfl) ⟨trivial, trivial, trivial⟩ ?_
  refine awl_nil ?_
  refine thenQ_n ?_
  refine aw_seq ?_
  refine aw_seq ?_
  refine aw_region ?_
  refine awl_runp 2 [0, 10] [10] (ob := (True ∧ True ∧ True)) (st' := (⟨72, [(0, [], .v (.c (.p (.sl (.int .u8)) w))), (10, [], .v (.c (.own 10)))], [(10, [], .arr 22 (.sl (.int .u8)) [w])]⟩ : St)) (by kernel_rfl) ⟨trivial, trivial, trivial⟩ ?_
  refine awl_callk (p := []) (l := [toV1 (.sl (.sl (.int .u8))) [w]]) (cl := []) true [.d (.sl (.sl (.int .u8)))] [0, 11] [] (fun (ret11v : Int) => (((!decide (ret11v = (0 : Int))) = true → K (([] : (List (List Int))), ret11v)) ∧ ((!decide (ret11v = (0 : Int))) = false → Loop (σ := Int × (List (List Int))) (fun s X => VC30_l1 w K s.1 s.2 X) ((0 : Int), ([] : List (List Int)))))) (fun ret11v => [toV1 (.int .i64) ret11v]) (fun ret11v => (⟨72, [(0, [], .v (.c (.p (.sl (.int .u8)) w))), (11, [], .v (.c (.p (.int .i64) ret11v)))], []⟩ : St)) (by kernel_rfl) rfl (by kernel_rfl) rfl (by kernel_rfl) Try.call38 (by kernel_rfl) (fun ret11v => by kernel_rfl) (fun _ _ => rfl) (fun hg => link38 [w] _ h) (fun hg => noF hg) (fun ret11v h => ?_)
  have h : (((!decide (ret11v = (0 : Int))) = true → K (([] : (List (List Int))), ret11v)) ∧ ((!decide (ret11v = (0 : Int))) = false → Loop (σ := Int × (List (List Int))) (fun s X => VC30_l1 w K s.1 s.2 X) ((0 : Int), ([] : List (List Int))))) := h
  refine awl_runp 1 [0, 4] [] (ob := (True ∧ True)) (st' := (⟨72, [(0, [], .v (.c (.p (.sl (.int .u8)) w))), (4, [], .v (.c (.p (.int .i64) ret11v)))], []⟩ : St)) (by kernel_rfl) ⟨trivial, trivial⟩ ?_
  refine awl_nil ?_
  refine thenQ_n ?_
  refine aw_seq ?_
  refine aw_region ?_
  refine awl_runp 2 [0, 4, 13] [] (ob := (True ∧ True ∧ True)) (st' := (⟨72, [(0, [], .v (.c (.p (.sl (.int .u8)) w))), (4, [], .v (.c (.p (.int .i64) ret11v))), (13, [], .v (.c (.p .bool (!decide (ret11v = (0 : Int))))))], []⟩ : St)) (by kernel_rfl) ⟨trivial, trivial, trivial⟩ ?_
  refine awl_nil ?_
  refine thenQ_n ?_
  refine aw_cond (b := (!decide (ret11v = (0 : Int)))) (by kernel_rfl) (fun hb => ?_) (fun hb => ?_)
  · have h := h.1 hb
    refine aw_seq ?_
    refine aw_region ?_
    refine awl_runp 3 [2, 3] [] (ob := (True ∧ True ∧ True ∧ True)) (st' := (⟨72, [(2, [], .v (.c (.nils))), (3, [], .v (.c (.p (.int .i64) ret11v)))], []⟩ : St)) (by kernel_rfl) ⟨trivial, trivial, trivial, trivial⟩ ?_
    refine awl_nil ?_
    refine thenQ_n ?_
    refine aw_ret ?_
    refine thenQ_r ?_
    exact retQ_r (σ := (List (List Int)) × Int) (R := (fun y => [toV1 (.sl (.sl (.int .u8))) y.1, toV1 (.int .i64) y.2])) (ob := (True ∧ True ∧ True)) (([] : (List (List Int))), ret11v) (by kernel_rfl) ⟨trivial, trivial, trivial⟩ h
  · have h := h.2 hb
    refine aw_skip ?_
    refine thenQ_n ?_
    refine aw_seq ?_
    refine aw_region ?_
    refine awl_runp 1 [0, 5] [] (ob := (True ∧ True)) (st' := (⟨72, [(0, [], .v (.c (.p (.sl (.int .u8)) w))), (5, [], .v (.c (.nils)))], []⟩ : St)) (by kernel_rfl) ⟨trivial, trivial⟩ ?_
    refine awl_nil ?_
    refine thenQ_n ?_
    refine aw_seq ?_
    refine aw_seq ?_
    refine aw_region ?_
    refine awl_runp 1 [0, 5, 6] [] (ob := (True ∧ True)) (st' := (⟨72, [(0, [], .v (.c (.p (.sl (.int .u8)) w))), (5, [], .v (.c (.nils))), (6, [], .v (.c (.p (.int .i64) (0 : Int))))], []⟩ : St)) (by kernel_rfl) ⟨trivial, trivial⟩ ?_
    refine awl_nil ?_
    refine thenQ_n ?_
    refine withJoin (σ := (List (List Int))) (fun s => (⟨72, [(5, [], .v (.c (.own 5005)))], [(5005, [], .arr 22 (.sl (.int .u8)) s)]⟩ : St)) (fun s => VC30_k1 K s) (fun out h => ?_) (fun rest1 => ?_)
    · have h : VC30_k1 K out := h
      unfold VC30_k1 at h
      refine thenQ_n ?_
      refine aw_seq ?_
      refine aw_region ?_
      refine awl_runp 3 [2, 3] [5005] (ob := (True ∧ True ∧ True ∧ True)) (st' := (⟨72, [(2, [], .v (.c (.own 5005))), (3, [], .v (.c (.p (.int .i64) (0 : Int))))], [(5005, [], .arr 22 (.sl (.int .u8)) out)]⟩ : St)) (by kernel_rfl) ⟨trivial, trivial, trivial, trivial⟩ ?_
      refine awl_nil ?_
      refine thenQ_n ?_
      refine aw_conv [.freeze 5005] (st' := (⟨72, [(2, [], .v (.c (.p (.sl (.sl (.int .u8))) out))), (3, [], .v (.c (.p (.int .i64) (0 : Int))))], []⟩ : St)) (by kernel_rfl) ?_
      refine aw_ret ?_
      exact retQ_r (σ := (List (List Int)) × Int) (R := (fun y => [toV1 (.sl (.sl (.int .u8))) y.1, toV1 (.int .i64) y.2])) (ob := (True ∧ True ∧ True)) (out, (0 : Int)) (by kernel_rfl) ⟨trivial, trivial, trivial⟩ h
    · refine aw_block ?_
      refine aw_conv [.nilOwn 5 5005 22 (.sl (.int .u8)), .prune [0, 5, 6] [5005]] (st' := (⟨72, [(0, [], .v (.c (.p (.sl (.int .u8)) w))), (5, [], .v (.c (.own 5005))), (6, [], .v (.c (.p (.int .i64) (0 : Int))))], [(5005, [], .arr 22 (.sl (.int .u8)) ([] : List (List Int)))]⟩ : St)) (by kernel_rfl) ?_
      refine aw_loop (σ := Int × (List (List Int))) (fun s => (⟨72, [(0, [], .v (.c (.p (.sl (.int .u8)) w))), (5, [], .v (.c (.own 5005))), (6, [], .v (.c (.p (.int .i64) s.1)))], [(5005, [], .arr 22 (.sl (.int .u8)) s.2)]⟩ : St)) (fun s X => VC30_l1 w K s.1 s.2 X) (s0 := ((0 : Int), ([] : List (List Int)))) (fun s X1 h => ?_) h
      obtain ⟨i, out⟩ := s
      have h : VC30_l1 w K i out X1 := h
      unfold VC30_l1 at h
      refine aw_seq ?_
      refine aw_seq ?_
      refine aw_region ?_
      refine awl_runp 4 [0, 5, 6, 18] [5005] (ob := (True ∧ True ∧ True ∧ True ∧ True)) (st' := (⟨72, [(0, [], .v (.c (.p (.sl (.int .u8)) w))), (5, [], .v (.c (.own 5005))), (6, [], .v (.c (.p (.int .i64) i))), (18, [], .v (.c (.p .bool (decide (i < (w.length : Int))))))], [(5005, [], .arr 22 (.sl (.int .u8)) out)]⟩ : St)) (by kernel_rfl) ⟨trivial, trivial, trivial, trivial, trivial⟩ ?_
      refine awl_nil ?_
      refine thenQ_n ?_
      refine aw_cond (b := (decide (i < (w.length : Int)))) (by kernel_rfl) (fun hb => ?_) (fun hb => ?_)
      · have h := h.1 hb
        refine aw_skip ?_
        refine thenQ_n ?_
        refine aw_block ?_
        refine aw_seq ?_
        refine aw_region ?_
        obtain ⟨o1, h⟩ := h
        refine awl_runp 5 [0, 5, 6, 7, 8] [5005] (ob := (True ∧ InR (i + (1 : Int)) ∧ True ∧ True ∧ True ∧ True)) (st' := (⟨72, [(0, [], .v (.c (.p (.sl (.int .u8)) w))), (5, [], .v (.c (.own 5005))), (6, [], .v (.c (.p (.int .i64) i))), (7, [], .v (.c (.p (.int .i64) (i + (1 : Int))))), (8, [], .v (.c (.p (.int .i64) i)))], [(5005, [], .arr 22 (.sl (.int .u8)) out)]⟩ : St)) (by kernel_rfl) ⟨trivial, o1, trivial, trivial, trivial, trivial⟩ ?_
        refine awl_nil ?_
        refine thenQ_n ?_
        refine aw_seq ?_
        refine withJoin (σ := Int × Int) (fun s => (⟨72, [(0, [], .v (.c (.p (.sl (.int .u8)) w))), (5, [], .v (.c (.own 5005))), (6, [], .v (.c (.p (.int .i64) i))), (7, [], .v (.c (.p (.int .i64) s.1))), (8, [], .v (.c (.p (.int .i64) s.2)))], [(5005, [], .arr 22 (.sl (.int .u8)) out)]⟩ : St)) (fun s => VC30_k2 w i out X1 s.1 s.2) (fun s h => ?_) (fun rest3 => ?_)
        · obtain ⟨j, k⟩ := s
          have h : VC30_k2 w i out X1 j k := h
          unfold VC30_k2 at h
          refine thenQ_n ?_
          refine withJoin (σ := Int × (List (List Int))) (fun s => (⟨72, [(0, [], .v (.c (.p (.sl (.int .u8)) w))), (5, [], .v (.c (.own 5005))), (6, [], .v (.c (.p (.int .i64) s.1)))], [(5005, [], .arr 22 (.sl (.int .u8)) s.2)]⟩ : St)) (fun s => VC30_k3 X1 s.1 s.2) (fun s h => ?_) (fun rest2 => ?_)
          · obtain ⟨i2, out2⟩ := s
            have h : VC30_k3 X1 i2 out2 := h
            unfold VC30_k3 at h
            refine blockQ_n ?_
            exact thenQ_n ⟨(i2, out2), rfl, h⟩
          · refine aw_block ?_
            refine aw_loop (σ := Int × (List (List Int))) (fun s => (⟨72, [(0, [], .v (.c (.p (.sl (.int .u8)) w))), (5, [], .v (.c (.own 5005))), (6, [], .v (.c (.p (.int .i64) s.1))), (7, [], .v (.c (.p (.int .i64) j))), (8, [], .v (.c (.p (.int .i64) k)))], [(5005, [], .arr 22 (.sl (.int .u8)) s.2)]⟩ : St)) (fun s X => VC30_l2 w X1 j k s.1 s.2 X) (s0 := (i, out)) (fun s X2 h => ?_) h
            obtain ⟨i2, out2⟩ := s
            have h : VC30_l2 w X1 j k i2 out2 X2 := h
            unfold VC30_l2 at h
            refine aw_seq ?_
            refine aw_seq ?_
            refine aw_region ?_
            refine awl_runp 3 [0, 5, 6, 7, 8, 53] [5005] (ob := (True ∧ True ∧ True ∧ True)) (st' := (⟨72, [(0, [], .v (.c (.p (.sl (.int .u8)) w))), (5, [], .v (.c (.own 5005))), (6, [], .v (.c (.p (.int .i64) i2))), (7, [], .v (.c (.p (.int .i64) j))), (8, [], .v (.c (.p (.int .i64) k))), (53, [], .v (.c (.p .bool (decide (i2 ≤ k)))))], [(5005, [], .arr 22 (.sl (.int .u8)) out2)]⟩ : St)) (by kernel_rfl) ⟨trivial, trivial, trivial, trivial⟩ ?_
            refine awl_nil ?_
            refine thenQ_n ?_
            refine aw_cond (b := (decide (i2 ≤ k))) (by kernel_rfl) (fun hb => ?_) (fun hb => ?_)
            · have h := h.1 hb
              refine aw_skip ?_
              refine thenQ_n ?_
              refine aw_seq ?_
              refine aw_block ?_
              refine aw_region ?_
              obtain ⟨o1, o2, o3, h⟩ := h
              refine awl_runp 9 [0, 6, 7, 8, 59, 67] [5005] (ob := (True ∧ True ∧ True ∧ True ∧ True ∧ InR (i2 + j) ∧ True ∧ InR ((i2 + j) - k) ∧ (0 ≤ i2 ∧ i2 ≤ ((i2 + j) - k) ∧ ((i2 + j) - k) ≤ (w.length : Int)) ∧ True)) (st' := (⟨72, [(0, [], .v (.c (.p (.sl (.int .u8)) w))), (6, [], .v (.c (.p (.int .i64) i2))), (7, [], .v (.c (.p (.int .i64) j))), (8, [], .v (.c (.p (.int .i64) k))), (59, [], .v (.c (.own 5005))), (67, [], .v (.c (.p (.sl (.int .u8)) ((w.take (((i2 + j) - k)).toNat).drop (i2).toNat))))], [(5005, [], .arr 22 (.sl (.int .u8)) out2)]⟩ : St)) (by kernel_rfl) ⟨trivial, trivial, trivial, trivial, trivial, o1, trivial, o2, o3, trivial⟩ ?_
              refine awl_callOk (e := 5) (t := (.int .u8)) (l := [toV1 (.sl (.int .u8)) ((w.take (((i2 + j) - k)).toNat).drop (i2).toNat)]) (cl := []) false [.d (.sl (.int .u8))] [0, 6, 7, 8, 59, 68] [68, 5005] (fun (ret68v : (List Int)) => (roomN (out2.length + [ret68v].length) ∧ (InR (j - k) ∧ InR (i2 + (j - k)) ∧ X2 ((i2 + (j - k)), (out2 ++ [ret68v]))))) (fun ret68v => (⟨72, [(0, [], .v (.c (.p (.sl (.int .u8)) w))), (6, [], .v (.c (.p (.int .i64) i2))), (7, [], .v (.c (.p (.int .i64) j))), (8, [], .v (.c (.p (.int .i64) k))), (59, [], .v (.c (.own 5005))), (68, [], .v (.c (.own 68)))], [(68, [], .arr 5 (.int .u8) ret68v), (5005, [], .arr 22 (.sl (.int .u8)) out2)]⟩ : St)) rfl rfl (by kernel_rfl) rfl (by kernel_rfl) Try.call41 (by kernel_rfl) (fun e => by cases e) (fun ret68v => by kernel_rfl) (link41 ((w.take (((i2 + j) - k)).toNat).drop (i2).toNat) _ h) (fun ret68v h => ?_)
              have h : (roomN (out2.length + [ret68v].length) ∧ (InR (j - k) ∧ InR (i2 + (j - k)) ∧ X2 ((i2 + (j - k)), (out2 ++ [ret68v])))) := h
              refine awl_conv [.freeze 68] (st' := (⟨72, [(0, [], .v (.c (.p (.sl (.int .u8)) w))), (6, [], .v (.c (.p (.int .i64) i2))), (7, [], .v (.c (.p (.int .i64) j))), (8, [], .v (.c (.p (.int .i64) k))), (59, [], .v (.c (.own 5005))), (68, [], .v (.c (.p (.sl (.int .u8)) ret68v)))], [(5005, [], .arr 22 (.sl (.int .u8)) out2)]⟩ : St)) (by kernel_rfl) ?_
              obtain ⟨o1, h⟩ := h
              refine awl_runp 3 [0, 5, 6, 7, 8] [70] (ob := (True ∧ roomN (out2.length + [ret68v].length) ∧ True ∧ True)) (st' := (⟨72, [(0, [], .v (.c (.p (.sl (.int .u8)) w))), (5, [], .v (.c (.own 70))), (6, [], .v (.c (.p (.int .i64) i2))), (7, [], .v (.c (.p (.int .i64) j))), (8, [], .v (.c (.p (.int .i64) k)))], [(70, [], .arr 22 (.sl (.int .u8)) (out2 ++ [ret68v]))]⟩ : St)) (by kernel_rfl) ⟨trivial, o1, trivial, trivial⟩ ?_
              refine awl_nil ?_
              refine blockQ_n ?_
              refine thenQ_n ?_
              refine aw_region ?_
              obtain ⟨o1, o2, h⟩ := h
              refine awl_runp 6 [0, 5, 6, 7, 8] [70] (ob := (True ∧ True ∧ True ∧ InR (j - k) ∧ InR (i2 + (j - k)) ∧ True ∧ True)) (st' := (⟨72, [(0, [], .v (.c (.p (.sl (.int .u8)) w))), (5, [], .v (.c (.own 70))), (6, [], .v (.c (.p (.int .i64) (i2 + (j - k))))), (7, [], .v (.c (.p (.int .i64) j))), (8, [], .v (.c (.p (.int .i64) k)))], [(70, [], .arr 22 (.sl (.int .u8)) (out2 ++ [ret68v]))]⟩ : St)) (by kernel_rfl) ⟨trivial, trivial, trivial, o1, o2, trivial, trivial⟩ ?_
              refine awl_conv [.ren 70 20070, .ren 20070 5005] (st' := (⟨72, [(0, [], .v (.c (.p (.sl (.int .u8)) w))), (5, [], .v (.c (.own 5005))), (6, [], .v (.c (.p (.int .i64) (i2 + (j - k))))), (7, [], .v (.c (.p (.int .i64) j))), (8, [], .v (.c (.p (.int .i64) k)))], [(5005, [], .arr 22 (.sl (.int .u8)) (out2 ++ [ret68v]))]⟩ : St)) (by kernel_rfl) ?_
              refine awl_nil ?_
              exact thenQ_n ⟨((i2 + (j - k)), (out2 ++ [ret68v])), rfl, h⟩
            · have h := h.2 hb
              refine aw_conv [.prune [0, 5, 6] [5005]] (st' := (⟨72, [(0, [], .v (.c (.p (.sl (.int .u8)) w))), (5, [], .v (.c (.own 5005))), (6, [], .v (.c (.p (.int .i64) i2)))], [(5005, [], .arr 22 (.sl (.int .u8)) out2)]⟩ : St)) (by kernel_rfl) ?_
              refine aw_exit ?_
              refine thenQ_x ?_
              refine thenQ_x ?_
              refine blockQ_hit ?_
              exact rest2 (i2, out2) h
        · refine aw_block ?_
          refine aw_loop (σ := Int × Int) (fun s => (⟨72, [(0, [], .v (.c (.p (.sl (.int .u8)) w))), (5, [], .v (.c (.own 5005))), (6, [], .v (.c (.p (.int .i64) i))), (7, [], .v (.c (.p (.int .i64) s.1))), (8, [], .v (.c (.p (.int .i64) s.2)))], [(5005, [], .arr 22 (.sl (.int .u8)) out)]⟩ : St)) (fun s X => VC30_l3 w i out X1 s.1 s.2 X) (s0 := ((i + (1 : Int)), i)) (fun s X3 h => ?_) h
          obtain ⟨j, k⟩ := s
          have h : VC30_l3 w i out X1 j k X3 := h
          unfold VC30_l3 at h
          refine aw_seq ?_
          refine aw_seq ?_
          refine awd_begin [] (by kernel_rfl) ?_
          obtain ⟨o1, o2, h⟩ := h
          refine awd_runp (by kernel_rfl) [0, 1, 2, 3, 4, 5, 6, 7, 8, 9, 10, 11, 12, 13, 14] [0, 5, 6, 7, 8, 36] [5005] (ob := (True ∧ True ∧ True ∧ True ∧ True ∧ ((decide (j < (w.length : Int))) = true → True) ∧ ((decide (j < (w.length : Int))) = true → True) ∧ ((decide (j < (w.length : Int))) = true → inIdx k w.length) ∧ ((decide (j < (w.length : Int))) = true → True) ∧ ((decide (j < (w.length : Int))) = true → True) ∧ ((decide (j < (w.length : Int))) = true → True) ∧ ((decide (j < (w.length : Int))) = true → inIdx j w.length) ∧ ((decide (j < (w.length : Int))) = true → True) ∧ ((decide (j < (w.length : Int))) = true → True) ∧ True ∧ True)) (done' := [14, 13, 12, 11, 10, 9, 8, 7, 6, 5, 4, 3, 2, 1, 0]) (st' := (⟨72, [(0, [], .v (.c (.p (.sl (.int .u8)) w))), (5, [], .v (.c (.own 5005))), (6, [], .v (.c (.p (.int .i64) i))), (7, [], .v (.c (.p (.int .i64) j))), (8, [], .v (.c (.p (.int .i64) k))), (36, [], .v (.c (.p .bool ((decide (j < (w.length : Int))) && (decide ((w.getD (k).toNat (0 : Int)) ≤ (w.getD (j).toNat (0 : Int))))))))], [(5005, [], .arr 22 (.sl (.int .u8)) out)]⟩ : St)) (by kernel_rfl) ⟨trivial, trivial, trivial, trivial, trivial, (fun _ => trivial), (fun _ => trivial), o1, (fun _ => trivial), (fun _ => trivial), (fun _ => trivial), o2, (fun _ => trivial), (fun _ => trivial), trivial, trivial⟩ ?_
          refine awd_done (by kernel_rfl) ?_
          refine thenQ_n ?_
          refine aw_cond (b := ((decide (j < (w.length : Int))) && (decide ((w.getD (k).toNat (0 : Int)) ≤ (w.getD (j).toNat (0 : Int)))))) (by kernel_rfl) (fun hb => ?_) (fun hb => ?_)
          · have h := h.1 hb
            refine aw_skip ?_
            refine thenQ_n ?_
            refine aw_block ?_
            refine aw_seq ?_
            refine aw_seq ?_
            refine awd_begin [] (by kernel_rfl) ?_
            obtain ⟨o1, o2, h⟩ := h
            refine awd_runp (by kernel_rfl) [0, 1, 2, 3, 4, 5, 6, 7, 8] [0, 5, 6, 7, 8, 45] [5005] (ob := (True ∧ True ∧ inIdx k w.length ∧ True ∧ True ∧ True ∧ inIdx j w.length ∧ True ∧ True ∧ True)) (done' := [8, 7, 6, 5, 4, 3, 2, 1, 0]) (st' := (⟨72, [(0, [], .v (.c (.p (.sl (.int .u8)) w))), (5, [], .v (.c (.own 5005))), (6, [], .v (.c (.p (.int .i64) i))), (7, [], .v (.c (.p (.int .i64) j))), (8, [], .v (.c (.p (.int .i64) k))), (45, [], .v (.c (.p .bool (decide ((w.getD (k).toNat (0 : Int)) < (w.getD (j).toNat (0 : Int)))))))], [(5005, [], .arr 22 (.sl (.int .u8)) out)]⟩ : St)) (by kernel_rfl) ⟨trivial, trivial, o1, trivial, trivial, trivial, o2, trivial, trivial, trivial⟩ ?_
            refine awd_done (by kernel_rfl) ?_
            refine thenQ_n ?_
            refine withJoin (σ := Int) (fun s => (⟨72, [(0, [], .v (.c (.p (.sl (.int .u8)) w))), (5, [], .v (.c (.own 5005))), (6, [], .v (.c (.p (.int .i64) i))), (7, [], .v (.c (.p (.int .i64) j))), (8, [], .v (.c (.p (.int .i64) s)))], [(5005, [], .arr 22 (.sl (.int .u8)) out)]⟩ : St)) (fun s => VC30_k4 j X3 s) (fun k2 h => ?_) (fun rest4 => ?_)
            · have h : VC30_k4 j X3 k2 := h
              unfold VC30_k4 at h
              refine thenQ_n ?_
              refine aw_region ?_
              obtain ⟨o1, h⟩ := h
              refine awl_runp 3 [0, 5, 6, 7, 8] [5005] (ob := (True ∧ InR (j + (1 : Int)) ∧ True ∧ True)) (st' := (⟨72, [(0, [], .v (.c (.p (.sl (.int .u8)) w))), (5, [], .v (.c (.own 5005))), (6, [], .v (.c (.p (.int .i64) i))), (7, [], .v (.c (.p (.int .i64) (j + (1 : Int))))), (8, [], .v (.c (.p (.int .i64) k2)))], [(5005, [], .arr 22 (.sl (.int .u8)) out)]⟩ : St)) (by kernel_rfl) ⟨trivial, o1, trivial, trivial⟩ ?_
              refine awl_nil ?_
              refine blockQ_n ?_
              exact thenQ_n ⟨((j + (1 : Int)), k2), rfl, h⟩
            · refine aw_cond (b := (decide ((w.getD (k).toNat (0 : Int)) < (w.getD (j).toNat (0 : Int))))) (by kernel_rfl) (fun hb => ?_) (fun hb => ?_)
              · have h := h.1 hb
                refine aw_region ?_
                refine awl_runp 2 [0, 5, 6, 7, 8] [5005] (ob := (True ∧ True ∧ True)) (st' := (⟨72, [(0, [], .v (.c (.p (.sl (.int .u8)) w))), (5, [], .v (.c (.own 5005))), (6, [], .v (.c (.p (.int .i64) i))), (7, [], .v (.c (.p (.int .i64) j))), (8, [], .v (.c (.p (.int .i64) i)))], [(5005, [], .arr 22 (.sl (.int .u8)) out)]⟩ : St)) (by kernel_rfl) ⟨trivial, trivial, trivial⟩ ?_
                refine awl_nil ?_
                exact rest4 i h
              · have h := h.2 hb
                refine aw_region ?_
                obtain ⟨o1, h⟩ := h
                refine awl_runp 3 [0, 5, 6, 7, 8] [5005] (ob := (True ∧ InR (k + (1 : Int)) ∧ True ∧ True)) (st' := (⟨72, [(0, [], .v (.c (.p (.sl (.int .u8)) w))), (5, [], .v (.c (.own 5005))), (6, [], .v (.c (.p (.int .i64) i))), (7, [], .v (.c (.p (.int .i64) j))), (8, [], .v (.c (.p (.int .i64) (k + (1 : Int)))))], [(5005, [], .arr 22 (.sl (.int .u8)) out)]⟩ : St)) (by kernel_rfl) ⟨trivial, o1, trivial, trivial⟩ ?_
                refine awl_nil ?_
                exact rest4 (k + (1 : Int)) h
          · have h := h.2 hb
            refine aw_conv [.prune [0, 5, 6, 7, 8] [5005]] (st' := (⟨72, [(0, [], .v (.c (.p (.sl (.int .u8)) w))), (5, [], .v (.c (.own 5005))), (6, [], .v (.c (.p (.int .i64) i))), (7, [], .v (.c (.p (.int .i64) j))), (8, [], .v (.c (.p (.int .i64) k)))], [(5005, [], .arr 22 (.sl (.int .u8)) out)]⟩ : St)) (by kernel_rfl) ?_
            refine aw_exit ?_
            refine thenQ_x ?_
            refine thenQ_x ?_
            refine blockQ_hit ?_
            exact rest3 (j, k) h
      · have h := h.2 hb
        refine aw_conv [.prune [5] [5005]] (st' := (⟨72, [(5, [], .v (.c (.own 5005)))], [(5005, [], .arr 22 (.sl (.int .u8)) out)]⟩ : St)) (by kernel_rfl) ?_
        refine aw_exit ?_
        refine thenQ_x ?_
        refine thenQ_x ?_
        refine blockQ_hit ?_
        exact rest1 out h

-- coppicer/coppicerref.Bytes
def VC21_k1 (K : Bool → Prop) : Prop :=
  K true

def VC21_l1 (a : (List Int)) (b : (List Int)) (K : Bool → Prop) (i : Int) (X1 : Int → Prop) : Prop :=
  (((decide (i < (a.length : Int))) = true → (inIdx i a.length ∧ inIdx i b.length ∧ (((!decide ((a.getD (i).toNat (0 : Int)) = (b.getD (i).toNat (0 : Int)))) = true → K false) ∧ ((!decide ((a.getD (i).toNat (0 : Int)) = (b.getD (i).toNat (0 : Int)))) = false → (InR (i + (1 : Int)) ∧ X1 (i + (1 : Int))))))) ∧ ((decide (i < (a.length : Int))) = false → VC21_k1 K))

def VC21 (a : (List Int)) (b : (List Int)) (K : Bool → Prop) : Prop :=
  (((!decide ((a.length : Int) = (b.length : Int))) = true → K false) ∧ ((!decide ((a.length : Int) = (b.length : Int))) = false → Loop (σ := Int) (fun s X => VC21_l1 a b K s X) (0 : Int)))

set_option maxHeartbeats 4000000 in
theorem link21 (a : (List Int)) (b : (List Int)) (K : Bool → Prop) (h : VC21 a b K) : ACalls Try.prog 21 [toV1 (.sl (.int .u8)) a, toV1 (.sl (.int .u8)) b] (fun res => ∃ y, res = (fun y => [toV1 .bool y]) y ∧ K y) := by
  refine acalls_of_aw [.bool] [.t 4] Try.func21 rfl rfl rfl ?_
  unfold VC21 at h
  refine aw_seq ?_
  refine aw_region ?_
  refine awl_runp 1 [0, 1] [] (ob := (True ∧ True)) (st' := (⟨26, [(0, [], .v (.c (.p (.sl (.int .u8)) a))), (1, [], .v (.c (.p (.sl (.int .u8)) b)))], []⟩ : St)) (by kernel_rfl) ⟨trivial, trivial⟩ ?_
  refine awl_nil ?_
  refine thenQ_n ?_
  refine aw_seq ?_
  refine aw_seq ?_
  refine aw_region ?_
  refine awl_runp 5 [0, 1, 10] [] (ob := (True ∧ True ∧ True ∧ True ∧ True ∧ True)) (st' := (⟨26, [(0, [], .v (.c (.p (.sl (.int .u8)) a))), (1, [], .v (.c (.p (.sl (.int .u8)) b))), (10, [], .v (.c (.p .bool (!decide ((a.length : Int) = (b.length : Int))))))], []⟩ : St)) (by kernel_rfl) ⟨trivial, trivial, trivial, trivial, trivial, trivial⟩ ?_
  refine awl_nil ?_
  refine thenQ_n ?_
  refine aw_cond (b := (!decide ((a.length : Int) = (b.length : Int)))) (by kernel_rfl) (fun hb => ?_) (fun hb => ?_)
  · have h := h.1 hb
    refine aw_seq ?_
    refine aw_region ?_
    refine awl_runp 1 [4] [] (ob := (True ∧ True)) (st' := (⟨26, [(4, [], .v (.c (.p .bool false)))], []⟩ : St)) (by kernel_rfl) ⟨trivial, trivial⟩ ?_
    refine awl_nil ?_
    refine thenQ_n ?_
    refine aw_ret ?_
    refine thenQ_r ?_
    exact retQ_r (σ := Bool) (R := (fun y => [toV1 .bool y])) (ob := (True ∧ True)) false (by kernel_rfl) ⟨trivial, trivial⟩ h
  · have h := h.2 hb
    refine aw_skip ?_
    refine thenQ_n ?_
    refine aw_seq ?_
    refine aw_seq ?_
    refine aw_region ?_
    refine awl_runp 1 [0, 1, 5] [] (ob := (True ∧ True)) (st' := (⟨26, [(0, [], .v (.c (.p (.sl (.int .u8)) a))), (1, [], .v (.c (.p (.sl (.int .u8)) b))), (5, [], .v (.c (.p (.int .i64) (0 : Int))))], []⟩ : St)) (by kernel_rfl) ⟨trivial, trivial⟩ ?_
    refine awl_nil ?_
    refine thenQ_n ?_
    refine withJoin (σ := Unit) (fun s => (⟨26, [], []⟩ : St)) (fun s => VC21_k1 K) (fun s h => ?_) (fun rest1 => ?_)
    · have h : VC21_k1 K := h
      unfold VC21_k1 at h
      refine thenQ_n ?_
      refine aw_seq ?_
      refine aw_region ?_
      refine awl_runp 1 [4] [] (ob := (True ∧ True)) (st' := (⟨26, [(4, [], .v (.c (.p .bool true)))], []⟩ : St)) (by kernel_rfl) ⟨trivial, trivial⟩ ?_
      refine awl_nil ?_
      refine thenQ_n ?_
      refine aw_ret ?_
      exact retQ_r (σ := Bool) (R := (fun y => [toV1 .bool y])) (ob := (True ∧ True)) true (by kernel_rfl) ⟨trivial, trivial⟩ h
    · refine aw_block ?_
      refine aw_loop (σ := Int) (fun s => (⟨26, [(0, [], .v (.c (.p (.sl (.int .u8)) a))), (1, [], .v (.c (.p (.sl (.int .u8)) b))), (5, [], .v (.c (.p (.int .i64) s)))], []⟩ : St)) (fun s X => VC21_l1 a b K s X) (s0 := (0 : Int)) (fun i X1 h => ?_) h
      have h : VC21_l1 a b K i X1 := h
      unfold VC21_l1 at h
      refine aw_seq ?_
      refine aw_seq ?_
      refine aw_region ?_
      refine awl_runp 4 [0, 1, 5, 14] [] (ob := (True ∧ True ∧ True ∧ True ∧ True)) (st' := (⟨26, [(0, [], .v (.c (.p (.sl (.int .u8)) a))), (1, [], .v (.c (.p (.sl (.int .u8)) b))), (5, [], .v (.c (.p (.int .i64) i))), (14, [], .v (.c (.p .bool (decide (i < (a.length : Int))))))], []⟩ : St)) (by kernel_rfl) ⟨trivial, trivial, trivial, trivial, trivial⟩ ?_
      refine awl_nil ?_
      refine thenQ_n ?_
      refine aw_cond (b := (decide (i < (a.length : Int)))) (by kernel_rfl) (fun hb => ?_) (fun hb => ?_)
      · have h := h.1 hb
        refine aw_skip ?_
        refine thenQ_n ?_
        refine aw_seq ?_
        refine aw_block ?_
        refine aw_seq ?_
        refine awd_begin [] (by kernel_rfl) ?_
        obtain ⟨o1, o2, h⟩ := h
        refine awd_runp (by kernel_rfl) [0, 1, 2, 3, 4, 5, 6, 7, 8] [0, 1, 5, 25] [] (ob := (True ∧ True ∧ inIdx i a.length ∧ True ∧ True ∧ True ∧ inIdx i b.length ∧ True ∧ True ∧ True)) (done' := [8, 7, 6, 5, 4, 3, 2, 1, 0]) (st' := (⟨26, [(0, [], .v (.c (.p (.sl (.int .u8)) a))), (1, [], .v (.c (.p (.sl (.int .u8)) b))), (5, [], .v (.c (.p (.int .i64) i))), (25, [], .v (.c (.p .bool (!decide ((a.getD (i).toNat (0 : Int)) = (b.getD (i).toNat (0 : Int)))))))], []⟩ : St)) (by kernel_rfl) ⟨trivial, trivial, o1, trivial, trivial, trivial, o2, trivial, trivial, trivial⟩ ?_
        refine awd_done (by kernel_rfl) ?_
        refine thenQ_n ?_
        refine aw_cond (b := (!decide ((a.getD (i).toNat (0 : Int)) = (b.getD (i).toNat (0 : Int))))) (by kernel_rfl) (fun hb => ?_) (fun hb => ?_)
        · have h := h.1 hb
          refine aw_seq ?_
          refine aw_region ?_
          refine awl_runp 1 [4] [] (ob := (True ∧ True)) (st' := (⟨26, [(4, [], .v (.c (.p .bool false)))], []⟩ : St)) (by kernel_rfl) ⟨trivial, trivial⟩ ?_
          refine awl_nil ?_
          refine thenQ_n ?_
          refine aw_ret ?_
          refine blockQ_r ?_
          refine thenQ_r ?_
          refine thenQ_r ?_
          refine blockQ_r ?_
          refine thenQ_r ?_
          exact retQ_r (σ := Bool) (R := (fun y => [toV1 .bool y])) (ob := (True ∧ True)) false (by kernel_rfl) ⟨trivial, trivial⟩ h
        · have h := h.2 hb
          refine aw_skip ?_
          refine blockQ_n ?_
          refine thenQ_n ?_
          refine aw_region ?_
          obtain ⟨o1, h⟩ := h
          refine awl_runp 3 [0, 1, 5] [] (ob := (True ∧ InR (i + (1 : Int)) ∧ True ∧ True)) (st' := (⟨26, [(0, [], .v (.c (.p (.sl (.int .u8)) a))), (1, [], .v (.c (.p (.sl (.int .u8)) b))), (5, [], .v (.c (.p (.int .i64) (i + (1 : Int)))))], []⟩ : St)) (by kernel_rfl) ⟨trivial, o1, trivial, trivial⟩ ?_
          refine awl_nil ?_
          exact thenQ_n ⟨(i + (1 : Int)), rfl, h⟩
      · have h := h.2 hb
        refine aw_conv [.prune [] []] (st' := (⟨26, [], []⟩ : St)) (by kernel_rfl) ?_
        refine aw_exit ?_
        refine thenQ_x ?_
        refine thenQ_x ?_
        refine blockQ_hit ?_
        exact rest1 () h

-- coppicer/coppicerkeep.LyndonOne
def VC9_k2 (K : Bool → Prop) : Prop :=
  K true

def VC9_l1 (parts : (List (List Int))) (K : Bool → Prop) (ret53v : (List (List Int)) × Int) (i : Int) (X1 : Int → Prop) : Prop :=
  (((decide (i < (ret53v.1.length : Int))) = true → (inIdx i ret53v.1.length ∧ inIdx i parts.length ∧ VC21 (ret53v.1.getD (i).toNat ([] : (List Int))) (parts.getD (i).toNat ([] : (List Int))) (fun (ret84v : Bool) => (((!ret84v) = true → K false) ∧ ((!ret84v) = false → (InR (i + (1 : Int)) ∧ X1 (i + (1 : Int)))))))) ∧ ((decide (i < (ret53v.1.length : Int))) = false → VC9_k2 K))

def VC9_k1 (parts : (List (List Int))) (K : Bool → Prop) (all : (List Int)) : Prop :=
  VC30 all (fun (ret53v : (List (List Int)) × Int) => VC16 [all] (fun (ret58v : Bool) => ((ret58v = true → K (!decide (ret53v.2 = (0 : Int)))) ∧ (ret58v = false → ((((!decide (ret53v.2 = (0 : Int))) || (!decide ((ret53v.1.length : Int) = (parts.length : Int)))) = true → K false) ∧ (((!decide (ret53v.2 = (0 : Int))) || (!decide ((ret53v.1.length : Int) = (parts.length : Int)))) = false → Loop (σ := Int) (fun s X => VC9_l1 parts K ret53v s X) (0 : Int)))))))

def VC9_l2 (parts : (List (List Int))) (K : Bool → Prop) (v13 : Int) (all : (List Int)) (X2 : Int × (List Int) → Prop) : Prop :=
  (((decide (v13 < (parts.length : Int))) = true → (inIdx v13 parts.length ∧ VC27 (parts.getD (v13).toNat ([] : (List Int))) (fun (ret20v : Bool × Int) => (((!decide (ret20v.2 = (0 : Int))) = true → VC16 [(parts.getD (v13).toNat ([] : (List Int)))] (fun (ret27v : Bool) => K ret27v)) ∧ ((!decide (ret20v.2 = (0 : Int))) = false → VC28 (parts.getD (v13).toNat ([] : (List Int))) (fun (ret30v : Bool) => (((ret20v.1 != ret30v) = true → K false) ∧ ((ret20v.1 != ret30v) = false → (((!ret20v.1) = false → ((decide ((0 : Int) < v13)) = true → InR (v13 - (1 : Int)))) ∧ ((!ret20v.1) = false → ((decide ((0 : Int) < v13)) = true → inIdx (v13 - (1 : Int)) parts.length)) ∧ gcall (α := Bool) ((!(!ret20v.1)) && (decide ((0 : Int) < v13))) (VC29 (parts.getD ((v13 - (1 : Int))).toNat ([] : (List Int))) (parts.getD (v13).toNat ([] : (List Int)))) false (fun (ret44v : Bool) => ((((!ret20v.1) || ((decide ((0 : Int) < v13)) && ret44v)) = true → K true) ∧ (((!ret20v.1) || ((decide ((0 : Int) < v13)) && ret44v)) = false → (roomN (all.length + (parts.getD (v13).toNat ([] : (List Int))).length) ∧ (InR (v13 + (1 : Int)) ∧ X2 ((v13 + (1 : Int)), (all ++ (parts.getD (v13).toNat ([] : (List Int))))))))))))))))))) ∧ ((decide (v13 < (parts.length : Int))) = false → VC9_k1 parts K all))

def VC9 (parts : (List (List Int))) (K : Bool → Prop) : Prop :=
  Loop (σ := Int × (List Int)) (fun s X => VC9_l2 parts K s.1 s.2 X) ((0 : Int), ([] : List Int))

set_option maxHeartbeats 4000000 in
theorem link9 (parts : (List (List Int))) (K : Bool → Prop) (h : VC9 parts K) : ACalls Try.prog 9 [toV1 (.sl (.sl (.int .u8))) parts] (fun res => ∃ y, res = (fun y => [toV1 .bool y]) y ∧ K y) := by
  refine acalls_of_aw [.bool] [.t 2] Try.func9 rfl rfl rfl ?_
  unfold VC9 at h
  refine aw_seq ?_
  refine aw_region ?_
  refine awl_runp 1 [0] [] (ob := (True ∧ True)) (st' := (⟨86, [(0, [], .v (.c (.p (.sl (.sl (.int .u8))) parts)))], []⟩ : St)) (by kernel_rfl) ⟨trivial, trivial⟩ ?_
  refine awl_nil ?_
  refine thenQ_n ?_
  refine aw_seq ?_
  refine aw_region ?_
  refine awl_runp 1 [0, 3] [] (ob := (True ∧ True)) (st' := (⟨86, [(0, [], .v (.c (.p (.sl (.sl (.int .u8))) parts))), (3, [], .v (.c (.nils)))], []⟩ : St)) (by kernel_rfl) ⟨trivial, trivial⟩ ?_
  refine awl_nil ?_
  refine thenQ_n ?_
  refine aw_seq ?_
  refine aw_seq ?_
  refine aw_region ?_
  refine awl_runp 3 [0, 3, 11, 12, 13] [] (ob := (True ∧ True ∧ True ∧ True)) (st' := (⟨86, [(0, [], .v (.c (.p (.sl (.sl (.int .u8))) parts))), (3, [], .v (.c (.nils))), (11, [], .v (.c (.p (.sl (.sl (.int .u8))) parts))), (12, [], .v (.c (.p (.int .i64) (parts.length : Int)))), (13, [], .v (.c (.p (.int .i64) (0 : Int))))], []⟩ : St)) (by kernel_rfl) ⟨trivial, trivial, trivial, trivial⟩ ?_
  refine awl_nil ?_
  refine thenQ_n ?_
  refine withJoin (σ := (List Int)) (fun s => (⟨86, [(0, [], .v (.c (.p (.sl (.sl (.int .u8))) parts))), (3, [], .v (.c (.own 5003)))], [(5003, [], .arr 5 (.int .u8) s)]⟩ : St)) (fun s => VC9_k1 parts K s) (fun all h => ?_) (fun rest2 => ?_)
  · have h : VC9_k1 parts K all := h
    unfold VC9_k1 at h
    refine thenQ_n ?_
    refine aw_seq ?_
    refine aw_region ?_
    refine awl_runp 1 [0, 3, 52] [5003] (ob := (True ∧ True)) (st' := (⟨86, [(0, [], .v (.c (.p (.sl (.sl (.int .u8))) parts))), (3, [], .v (.c (.own 5003))), (52, [], .v (.c (.own 5003)))], [(5003, [], .arr 5 (.int .u8) all)]⟩ : St)) (by kernel_rfl) ⟨trivial, trivial⟩ ?_
    refine awl_conv [.freeze 5003] (st' := (⟨86, [(0, [], .v (.c (.p (.sl (.sl (.int .u8))) parts))), (3, [], .v (.c (.p (.sl (.int .u8)) all))), (52, [], .v (.c (.p (.sl (.int .u8)) all)))], []⟩ : St)) (by kernel_rfl) ?_
    refine awl_callk (p := []) (l := [toV1 (.sl (.int .u8)) all]) (cl := []) false [.d (.sl (.int .u8))] [0, 3, 53] [] (fun (ret53v : (List (List Int)) × Int) => VC16 [all] (fun (ret58v : Bool) => ((ret58v = true → K (!decide (ret53v.2 = (0 : Int)))) ∧ (ret58v = false → ((((!decide (ret53v.2 = (0 : Int))) || (!decide ((ret53v.1.length : Int) = (parts.length : Int)))) = true → K false) ∧ (((!decide (ret53v.2 = (0 : Int))) || (!decide ((ret53v.1.length : Int) = (parts.length : Int)))) = false → Loop (σ := Int) (fun s X => VC9_l1 parts K ret53v s X) (0 : Int))))))) (fun ret53v => [toV1 (.sl (.sl (.int .u8))) ret53v.1, toV1 (.int .i64) ret53v.2]) (fun ret53v => (⟨86, [(0, [], .v (.c (.p (.sl (.sl (.int .u8))) parts))), (3, [], .v (.c (.p (.sl (.int .u8)) all))), (53, [], .tup [.c (.p (.sl (.sl (.int .u8))) ret53v.1), .c (.p (.int .i64) ret53v.2)])], []⟩ : St)) (by kernel_rfl) rfl (by kernel_rfl) rfl (by kernel_rfl) Try.call30 (by kernel_rfl) (fun ret53v => by kernel_rfl) (fun e => by cases e) (fun hg => link30 all _ h) (fun hg => noF hg) (fun ret53v h => ?_)
    have h : VC16 [all] (fun (ret58v : Bool) => ((ret58v = true → K (!decide (ret53v.2 = (0 : Int)))) ∧ (ret58v = false → ((((!decide (ret53v.2 = (0 : Int))) || (!decide ((ret53v.1.length : Int) = (parts.length : Int)))) = true → K false) ∧ (((!decide (ret53v.2 = (0 : Int))) || (!decide ((ret53v.1.length : Int) = (parts.length : Int)))) = false → Loop (σ := Int) (fun s X => VC9_l1 parts K ret53v s X) (0 : Int)))))) := h
    refine awl_runp 5 [0, 3, 8, 9] [] (ob := (True ∧ True ∧ True ∧ True ∧ True ∧ True)) (st' := (⟨86, [(0, [], .v (.c (.p (.sl (.sl (.int .u8))) parts))), (3, [], .v (.c (.p (.sl (.int .u8)) all))), (8, [], .v (.c (.p (.sl (.sl (.int .u8))) ret53v.1))), (9, [], .v (.c (.p (.int .i64) ret53v.2)))], []⟩ : St)) (by kernel_rfl) ⟨trivial, trivial, trivial, trivial, trivial, trivial⟩ ?_
    refine awl_nil ?_
    refine thenQ_n ?_
    refine aw_seq ?_
    refine aw_seq ?_
    refine aw_region ?_
    refine awl_runp 2 [0, 8, 9, 57] [57] (ob := (True ∧ True ∧ True)) (st' := (⟨86, [(0, [], .v (.c (.p (.sl (.sl (.int .u8))) parts))), (8, [], .v (.c (.p (.sl (.sl (.int .u8))) ret53v.1))), (9, [], .v (.c (.p (.int .i64) ret53v.2))), (57, [], .v (.c (.own 57)))], [(57, [], .arr 22 (.sl (.int .u8)) [all])]⟩ : St)) (by kernel_rfl) ⟨trivial, trivial, trivial⟩ ?_
    refine awl_callk (p := []) (l := [toV1 (.sl (.sl (.int .u8))) [all]]) (cl := []) true [.d (.sl (.sl (.int .u8)))] [0, 8, 9, 58] [] (fun (ret58v : Bool) => ((ret58v = true → K (!decide (ret53v.2 = (0 : Int)))) ∧ (ret58v = false → ((((!decide (ret53v.2 = (0 : Int))) || (!decide ((ret53v.1.length : Int) = (parts.length : Int)))) = true → K false) ∧ (((!decide (ret53v.2 = (0 : Int))) || (!decide ((ret53v.1.length : Int) = (parts.length : Int)))) = false → Loop (σ := Int) (fun s X => VC9_l1 parts K ret53v s X) (0 : Int)))))) (fun ret58v => [toV1 .bool ret58v]) (fun ret58v => (⟨86, [(0, [], .v (.c (.p (.sl (.sl (.int .u8))) parts))), (8, [], .v (.c (.p (.sl (.sl (.int .u8))) ret53v.1))), (9, [], .v (.c (.p (.int .i64) ret53v.2))), (58, [], .v (.c (.p .bool ret58v)))], []⟩ : St)) (by kernel_rfl) rfl (by kernel_rfl) rfl (by kernel_rfl) Try.call16 (by kernel_rfl) (fun ret58v => by kernel_rfl) (fun _ _ => rfl) (fun hg => link16 [all] _ h) (fun hg => noF hg) (fun ret58v h => ?_)
    have h : ((ret58v = true → K (!decide (ret53v.2 = (0 : Int)))) ∧ (ret58v = false → ((((!decide (ret53v.2 = (0 : Int))) || (!decide ((ret53v.1.length : Int) = (parts.length : Int)))) = true → K false) ∧ (((!decide (ret53v.2 = (0 : Int))) || (!decide ((ret53v.1.length : Int) = (parts.length : Int)))) = false → Loop (σ := Int) (fun s X => VC9_l1 parts K ret53v s X) (0 : Int))))) := h
    refine awl_nil ?_
    refine thenQ_n ?_
    refine aw_cond (b := ret58v) (by kernel_rfl) (fun hb => ?_) (fun hb => ?_)
    · have h := h.1 hb
      refine aw_seq ?_
      refine aw_region ?_
      refine awl_runp 3 [2] [] (ob := (True ∧ True ∧ True ∧ True)) (st' := (⟨86, [(2, [], .v (.c (.p .bool (!decide (ret53v.2 = (0 : Int))))))], []⟩ : St)) (by kernel_rfl) ⟨trivial, trivial, trivial, trivial⟩ ?_
      refine awl_nil ?_
      refine thenQ_n ?_
      refine aw_ret ?_
      refine thenQ_r ?_
      exact retQ_r (σ := Bool) (R := (fun y => [toV1 .bool y])) (ob := (True ∧ True)) (!decide (ret53v.2 = (0 : Int))) (by kernel_rfl) ⟨trivial, trivial⟩ h
    · have h := h.2 hb
      refine aw_skip ?_
      refine thenQ_n ?_
      refine aw_seq ?_
      refine aw_seq ?_
      refine aw_region ?_
      refine awl_runp 9 [0, 8, 69] [] (ob := (True ∧ True ∧ True ∧ ((!decide (ret53v.2 = (0 : Int))) = false → True) ∧ ((!decide (ret53v.2 = (0 : Int))) = false → True) ∧ ((!decide (ret53v.2 = (0 : Int))) = false → True) ∧ ((!decide (ret53v.2 = (0 : Int))) = false → True) ∧ ((!decide (ret53v.2 = (0 : Int))) = false → True) ∧ True ∧ True)) (st' := (⟨86, [(0, [], .v (.c (.p (.sl (.sl (.int .u8))) parts))), (8, [], .v (.c (.p (.sl (.sl (.int .u8))) ret53v.1))), (69, [], .v (.c (.p .bool ((!decide (ret53v.2 = (0 : Int))) || (!decide ((ret53v.1.length : Int) = (parts.length : Int)))))))], []⟩ : St)) (by kernel_rfl) ⟨trivial, trivial, trivial, (fun _ => trivial), (fun _ => trivial), (fun _ => trivial), (fun _ => trivial), (fun _ => trivial), trivial, trivial⟩ ?_
      refine awl_nil ?_
      refine thenQ_n ?_
      refine aw_cond (b := ((!decide (ret53v.2 = (0 : Int))) || (!decide ((ret53v.1.length : Int) = (parts.length : Int))))) (by kernel_rfl) (fun hb => ?_) (fun hb => ?_)
      · have h := h.1 hb
        refine aw_seq ?_
        refine aw_region ?_
        refine awl_runp 1 [2] [] (ob := (True ∧ True)) (st' := (⟨86, [(2, [], .v (.c (.p .bool false)))], []⟩ : St)) (by kernel_rfl) ⟨trivial, trivial⟩ ?_
        refine awl_nil ?_
        refine thenQ_n ?_
        refine aw_ret ?_
        refine thenQ_r ?_
        exact retQ_r (σ := Bool) (R := (fun y => [toV1 .bool y])) (ob := (True ∧ True)) false (by kernel_rfl) ⟨trivial, trivial⟩ h
      · have h := h.2 hb
        refine aw_skip ?_
        refine thenQ_n ?_
        refine aw_seq ?_
        refine aw_seq ?_
        refine aw_region ?_
        refine awl_runp 1 [0, 8, 10] [] (ob := (True ∧ True)) (st' := (⟨86, [(0, [], .v (.c (.p (.sl (.sl (.int .u8))) parts))), (8, [], .v (.c (.p (.sl (.sl (.int .u8))) ret53v.1))), (10, [], .v (.c (.p (.int .i64) (0 : Int))))], []⟩ : St)) (by kernel_rfl) ⟨trivial, trivial⟩ ?_
        refine awl_nil ?_
        refine thenQ_n ?_
        refine withJoin (σ := Unit) (fun s => (⟨86, [], []⟩ : St)) (fun s => VC9_k2 K) (fun s h => ?_) (fun rest1 => ?_)
        · have h : VC9_k2 K := h
          unfold VC9_k2 at h
          refine thenQ_n ?_
          refine aw_seq ?_
          refine aw_region ?_
          refine awl_runp 1 [2] [] (ob := (True ∧ True)) (st' := (⟨86, [(2, [], .v (.c (.p .bool true)))], []⟩ : St)) (by kernel_rfl) ⟨trivial, trivial⟩ ?_
          refine awl_nil ?_
          refine thenQ_n ?_
          refine aw_ret ?_
          exact retQ_r (σ := Bool) (R := (fun y => [toV1 .bool y])) (ob := (True ∧ True)) true (by kernel_rfl) ⟨trivial, trivial⟩ h
        · refine aw_block ?_
          refine aw_loop (σ := Int) (fun s => (⟨86, [(0, [], .v (.c (.p (.sl (.sl (.int .u8))) parts))), (8, [], .v (.c (.p (.sl (.sl (.int .u8))) ret53v.1))), (10, [], .v (.c (.p (.int .i64) s)))], []⟩ : St)) (fun s X => VC9_l1 parts K ret53v s X) (s0 := (0 : Int)) (fun i X1 h => ?_) h
          have h : VC9_l1 parts K ret53v i X1 := h
          unfold VC9_l1 at h
          refine aw_seq ?_
          refine aw_seq ?_
          refine aw_region ?_
          refine awl_runp 4 [0, 8, 10, 73] [] (ob := (True ∧ True ∧ True ∧ True ∧ True)) (st' := (⟨86, [(0, [], .v (.c (.p (.sl (.sl (.int .u8))) parts))), (8, [], .v (.c (.p (.sl (.sl (.int .u8))) ret53v.1))), (10, [], .v (.c (.p (.int .i64) i))), (73, [], .v (.c (.p .bool (decide (i < (ret53v.1.length : Int))))))], []⟩ : St)) (by kernel_rfl) ⟨trivial, trivial, trivial, trivial, trivial⟩ ?_
          refine awl_nil ?_
          refine thenQ_n ?_
          refine aw_cond (b := (decide (i < (ret53v.1.length : Int)))) (by kernel_rfl) (fun hb => ?_) (fun hb => ?_)
          · have h := h.1 hb
            refine aw_skip ?_
            refine thenQ_n ?_
            refine aw_seq ?_
            refine aw_block ?_
            refine aw_seq ?_
            refine awd_begin [] (by kernel_rfl) ?_
            obtain ⟨o1, o2, h⟩ := h
            refine awd_runp (by kernel_rfl) [0, 1, 2, 3, 4, 5, 6, 7] [0, 8, 10, 79, 83] [] (ob := (True ∧ True ∧ inIdx i ret53v.1.length ∧ True ∧ True ∧ True ∧ inIdx i parts.length ∧ True ∧ True)) (done' := [7, 6, 5, 4, 3, 2, 1, 0]) (st' := (⟨86, [(0, [], .v (.c (.p (.sl (.sl (.int .u8))) parts))), (8, [], .v (.c (.p (.sl (.sl (.int .u8))) ret53v.1))), (10, [], .v (.c (.p (.int .i64) i))), (79, [], .v (.c (.p (.sl (.int .u8)) (ret53v.1.getD (i).toNat ([] : (List Int)))))), (83, [], .v (.c (.p (.sl (.int .u8)) (parts.getD (i).toNat ([] : (List Int))))))], []⟩ : St)) (by kernel_rfl) ⟨trivial, trivial, o1, trivial, trivial, trivial, o2, trivial, trivial⟩ ?_
            refine awd_one (i := 8) (by kernel_rfl) ?_
            refine adop_callk (p := []) (l := [toV1 (.sl (.int .u8)) (ret53v.1.getD (i).toNat ([] : (List Int))), toV1 (.sl (.int .u8)) (parts.getD (i).toNat ([] : (List Int)))]) (cl := []) false [.d (.sl (.int .u8)), .d (.sl (.int .u8))] [0, 8, 10, 84] [] (fun (ret84v : Bool) => (((!ret84v) = true → K false) ∧ ((!ret84v) = false → (InR (i + (1 : Int)) ∧ X1 (i + (1 : Int)))))) (fun ret84v => [toV1 .bool ret84v]) (fun ret84v => (⟨86, [(0, [], .v (.c (.p (.sl (.sl (.int .u8))) parts))), (8, [], .v (.c (.p (.sl (.sl (.int .u8))) ret53v.1))), (10, [], .v (.c (.p (.int .i64) i))), (84, [], .v (.c (.p .bool ret84v)))], []⟩ : St)) rfl (by kernel_rfl) rfl (by kernel_rfl) rfl (by kernel_rfl) Try.call21 (by kernel_rfl) (fun ret84v => by kernel_rfl) (fun e => by cases e) (fun hg => link21 (ret53v.1.getD (i).toNat ([] : (List Int))) (parts.getD (i).toNat ([] : (List Int))) _ h) (fun hg => noF hg) (fun ret84v h => ?_)
            have h : (((!ret84v) = true → K false) ∧ ((!ret84v) = false → (InR (i + (1 : Int)) ∧ X1 (i + (1 : Int))))) := h
            refine awd_runp (by kernel_rfl) [9] [0, 8, 10, 85] [] (ob := (True ∧ True)) (done' := [9, 8, 7, 6, 5, 4, 3, 2, 1, 0]) (st' := (⟨86, [(0, [], .v (.c (.p (.sl (.sl (.int .u8))) parts))), (8, [], .v (.c (.p (.sl (.sl (.int .u8))) ret53v.1))), (10, [], .v (.c (.p (.int .i64) i))), (85, [], .v (.c (.p .bool (!ret84v))))], []⟩ : St)) (by kernel_rfl) ⟨trivial, trivial⟩ ?_
            refine awd_done (by kernel_rfl) ?_
            refine thenQ_n ?_
            refine aw_cond (b := (!ret84v)) (by kernel_rfl) (fun hb => ?_) (fun hb => ?_)
            · have h := h.1 hb
              refine aw_seq ?_
              refine aw_region ?_
              refine awl_runp 1 [2] [] (ob := (True ∧ True)) (st' := (⟨86, [(2, [], .v (.c (.p .bool false)))], []⟩ : St)) (by kernel_rfl) ⟨trivial, trivial⟩ ?_
              refine awl_nil ?_
              refine thenQ_n ?_
              refine aw_ret ?_
              refine blockQ_r ?_
              refine thenQ_r ?_
              refine thenQ_r ?_
              refine blockQ_r ?_
              refine thenQ_r ?_
              exact retQ_r (σ := Bool) (R := (fun y => [toV1 .bool y])) (ob := (True ∧ True)) false (by kernel_rfl) ⟨trivial, trivial⟩ h
            · have h := h.2 hb
              refine aw_skip ?_
              refine blockQ_n ?_
              refine thenQ_n ?_
              refine aw_region ?_
              obtain ⟨o1, h⟩ := h
              refine awl_runp 3 [0, 8, 10] [] (ob := (True ∧ InR (i + (1 : Int)) ∧ True ∧ True)) (st' := (⟨86, [(0, [], .v (.c (.p (.sl (.sl (.int .u8))) parts))), (8, [], .v (.c (.p (.sl (.sl (.int .u8))) ret53v.1))), (10, [], .v (.c (.p (.int .i64) (i + (1 : Int)))))], []⟩ : St)) (by kernel_rfl) ⟨trivial, o1, trivial, trivial⟩ ?_
              refine awl_nil ?_
              exact thenQ_n ⟨(i + (1 : Int)), rfl, h⟩
          · have h := h.2 hb
            refine aw_conv [.prune [] []] (st' := (⟨86, [], []⟩ : St)) (by kernel_rfl) ?_
            refine aw_exit ?_
            refine thenQ_x ?_
            refine thenQ_x ?_
            refine blockQ_hit ?_
            exact rest1 () h
  · refine aw_block ?_
    refine aw_conv [.nilOwn 3 5003 5 (.int .u8), .prune [0, 3, 11, 12, 13] [5003]] (st' := (⟨86, [(0, [], .v (.c (.p (.sl (.sl (.int .u8))) parts))), (3, [], .v (.c (.own 5003))), (11, [], .v (.c (.p (.sl (.sl (.int .u8))) parts))), (12, [], .v (.c (.p (.int .i64) (parts.length : Int)))), (13, [], .v (.c (.p (.int .i64) (0 : Int))))], [(5003, [], .arr 5 (.int .u8) ([] : List Int))]⟩ : St)) (by kernel_rfl) ?_
    refine aw_loop (σ := Int × (List Int)) (fun s => (⟨86, [(0, [], .v (.c (.p (.sl (.sl (.int .u8))) parts))), (3, [], .v (.c (.own 5003))), (11, [], .v (.c (.p (.sl (.sl (.int .u8))) parts))), (12, [], .v (.c (.p (.int .i64) (parts.length : Int)))), (13, [], .v (.c (.p (.int .i64) s.1)))], [(5003, [], .arr 5 (.int .u8) s.2)]⟩ : St)) (fun s X => VC9_l2 parts K s.1 s.2 X) (s0 := ((0 : Int), ([] : List Int))) (fun s X2 h => ?_) h
    obtain ⟨v13, all⟩ := s
    have h : VC9_l2 parts K v13 all X2 := h
    unfold VC9_l2 at h
    refine aw_seq ?_
    refine aw_region ?_
    refine awl_runp 1 [0, 3, 11, 12, 13, 14] [5003] (ob := (True ∧ True)) (st' := (⟨86, [(0, [], .v (.c (.p (.sl (.sl (.int .u8))) parts))), (3, [], .v (.c (.own 5003))), (11, [], .v (.c (.p (.sl (.sl (.int .u8))) parts))), (12, [], .v (.c (.p (.int .i64) (parts.length : Int)))), (13, [], .v (.c (.p (.int .i64) v13))), (14, [], .v (.c (.p .bool (decide (v13 < (parts.length : Int))))))], [(5003, [], .arr 5 (.int .u8) all)]⟩ : St)) (by kernel_rfl) ⟨trivial, trivial⟩ ?_
    refine awl_nil ?_
    refine thenQ_n ?_
    refine aw_seq ?_
    refine aw_cond (b := (decide (v13 < (parts.length : Int)))) (by kernel_rfl) (fun hb => ?_) (fun hb => ?_)
    · have h := h.1 hb
      refine aw_skip ?_
      refine thenQ_n ?_
      refine aw_seq ?_
      refine aw_block ?_
      refine aw_seq ?_
      refine aw_region ?_
      obtain ⟨o1, h⟩ := h
      refine awl_runp 5 [0, 3, 4, 5, 11, 12, 13] [5003] (ob := (True ∧ inIdx v13 parts.length ∧ True ∧ True ∧ True ∧ True)) (st' := (⟨86, [(0, [], .v (.c (.p (.sl (.sl (.int .u8))) parts))), (3, [], .v (.c (.own 5003))), (4, [], .v (.c (.p (.int .i64) v13))), (5, [], .v (.c (.p (.sl (.int .u8)) (parts.getD (v13).toNat ([] : (List Int)))))), (11, [], .v (.c (.p (.sl (.sl (.int .u8))) parts))), (12, [], .v (.c (.p (.int .i64) (parts.length : Int)))), (13, [], .v (.c (.p (.int .i64) v13)))], [(5003, [], .arr 5 (.int .u8) all)]⟩ : St)) (by kernel_rfl) ⟨trivial, o1, trivial, trivial, trivial, trivial⟩ ?_
      refine awl_nil ?_
      refine thenQ_n ?_
      refine aw_seq ?_
      refine aw_region ?_
      refine awl_runp 1 [0, 3, 4, 5, 11, 12, 13, 19] [5003] (ob := (True ∧ True)) (st' := (⟨86, [(0, [], .v (.c (.p (.sl (.sl (.int .u8))) parts))), (3, [], .v (.c (.own 5003))), (4, [], .v (.c (.p (.int .i64) v13))), (5, [], .v (.c (.p (.sl (.int .u8)) (parts.getD (v13).toNat ([] : (List Int)))))), (11, [], .v (.c (.p (.sl (.sl (.int .u8))) parts))), (12, [], .v (.c (.p (.int .i64) (parts.length : Int)))), (13, [], .v (.c (.p (.int .i64) v13))), (19, [], .v (.c (.p (.sl (.int .u8)) (parts.getD (v13).toNat ([] : (List Int))))))], [(5003, [], .arr 5 (.int .u8) all)]⟩ : St)) (by kernel_rfl) ⟨trivial, trivial⟩ ?_
      refine awl_callk (p := []) (l := [toV1 (.sl (.int .u8)) (parts.getD (v13).toNat ([] : (List Int)))]) (cl := []) false [.d (.sl (.int .u8))] [0, 3, 4, 5, 11, 12, 13, 20] [5003] (fun (ret20v : Bool × Int) => (((!decide (ret20v.2 = (0 : Int))) = true → VC16 [(parts.getD (v13).toNat ([] : (List Int)))] (fun (ret27v : Bool) => K ret27v)) ∧ ((!decide (ret20v.2 = (0 : Int))) = false → VC28 (parts.getD (v13).toNat ([] : (List Int))) (fun (ret30v : Bool) => (((ret20v.1 != ret30v) = true → K false) ∧ ((ret20v.1 != ret30v) = false → (((!ret20v.1) = false → ((decide ((0 : Int) < v13)) = true → InR (v13 - (1 : Int)))) ∧ ((!ret20v.1) = false → ((decide ((0 : Int) < v13)) = true → inIdx (v13 - (1 : Int)) parts.length)) ∧ gcall (α := Bool) ((!(!ret20v.1)) && (decide ((0 : Int) < v13))) (VC29 (parts.getD ((v13 - (1 : Int))).toNat ([] : (List Int))) (parts.getD (v13).toNat ([] : (List Int)))) false (fun (ret44v : Bool) => ((((!ret20v.1) || ((decide ((0 : Int) < v13)) && ret44v)) = true → K true) ∧ (((!ret20v.1) || ((decide ((0 : Int) < v13)) && ret44v)) = false → (roomN (all.length + (parts.getD (v13).toNat ([] : (List Int))).length) ∧ (InR (v13 + (1 : Int)) ∧ X2 ((v13 + (1 : Int)), (all ++ (parts.getD (v13).toNat ([] : (List Int))))))))))))))))) (fun ret20v => [toV1 .bool ret20v.1, toV1 (.int .i64) ret20v.2]) (fun ret20v => (⟨86, [(0, [], .v (.c (.p (.sl (.sl (.int .u8))) parts))), (3, [], .v (.c (.own 5003))), (4, [], .v (.c (.p (.int .i64) v13))), (5, [], .v (.c (.p (.sl (.int .u8)) (parts.getD (v13).toNat ([] : (List Int)))))), (11, [], .v (.c (.p (.sl (.sl (.int .u8))) parts))), (12, [], .v (.c (.p (.int .i64) (parts.length : Int)))), (13, [], .v (.c (.p (.int .i64) v13))), (20, [], .tup [.c (.p .bool ret20v.1), .c (.p (.int .i64) ret20v.2)])], [(5003, [], .arr 5 (.int .u8) all)]⟩ : St)) (by kernel_rfl) rfl (by kernel_rfl) rfl (by kernel_rfl) Try.call27 (by kernel_rfl) (fun ret20v => by kernel_rfl) (fun e => by cases e) (fun hg => link27 (parts.getD (v13).toNat ([] : (List Int))) _ h) (fun hg => noF hg) (fun ret20v h => ?_)
      have h : (((!decide (ret20v.2 = (0 : Int))) = true → VC16 [(parts.getD (v13).toNat ([] : (List Int)))] (fun (ret27v : Bool) => K ret27v)) ∧ ((!decide (ret20v.2 = (0 : Int))) = false → VC28 (parts.getD (v13).toNat ([] : (List Int))) (fun (ret30v : Bool) => (((ret20v.1 != ret30v) = true → K false) ∧ ((ret20v.1 != ret30v) = false → (((!ret20v.1) = false → ((decide ((0 : Int) < v13)) = true → InR (v13 - (1 : Int)))) ∧ ((!ret20v.1) = false → ((decide ((0 : Int) < v13)) = true → inIdx (v13 - (1 : Int)) parts.length)) ∧ gcall (α := Bool) ((!(!ret20v.1)) && (decide ((0 : Int) < v13))) (VC29 (parts.getD ((v13 - (1 : Int))).toNat ([] : (List Int))) (parts.getD (v13).toNat ([] : (List Int)))) false (fun (ret44v : Bool) => ((((!ret20v.1) || ((decide ((0 : Int) < v13)) && ret44v)) = true → K true) ∧ (((!ret20v.1) || ((decide ((0 : Int) < v13)) && ret44v)) = false → (roomN (all.length + (parts.getD (v13).toNat ([] : (List Int))).length) ∧ (InR (v13 + (1 : Int)) ∧ X2 ((v13 + (1 : Int)), (all ++ (parts.getD (v13).toNat ([] : (List Int)))))))))))))))) := h
      refine awl_runp 5 [0, 3, 4, 5, 6, 7, 11, 12, 13] [5003] (ob := (True ∧ True ∧ True ∧ True ∧ True ∧ True)) (st' := (⟨86, [(0, [], .v (.c (.p (.sl (.sl (.int .u8))) parts))), (3, [], .v (.c (.own 5003))), (4, [], .v (.c (.p (.int .i64) v13))), (5, [], .v (.c (.p (.sl (.int .u8)) (parts.getD (v13).toNat ([] : (List Int)))))), (6, [], .v (.c (.p .bool ret20v.1))), (7, [], .v (.c (.p (.int .i64) ret20v.2))), (11, [], .v (.c (.p (.sl (.sl (.int .u8))) parts))), (12, [], .v (.c (.p (.int .i64) (parts.length : Int)))), (13, [], .v (.c (.p (.int .i64) v13)))], [(5003, [], .arr 5 (.int .u8) all)]⟩ : St)) (by kernel_rfl) ⟨trivial, trivial, trivial, trivial, trivial, trivial⟩ ?_
      refine awl_nil ?_
      refine thenQ_n ?_
      refine aw_seq ?_
      refine aw_seq ?_
      refine aw_region ?_
      refine awl_runp 2 [0, 3, 4, 5, 6, 11, 12, 13, 24] [5003] (ob := (True ∧ True ∧ True)) (st' := (⟨86, [(0, [], .v (.c (.p (.sl (.sl (.int .u8))) parts))), (3, [], .v (.c (.own 5003))), (4, [], .v (.c (.p (.int .i64) v13))), (5, [], .v (.c (.p (.sl (.int .u8)) (parts.getD (v13).toNat ([] : (List Int)))))), (6, [], .v (.c (.p .bool ret20v.1))), (11, [], .v (.c (.p (.sl (.sl (.int .u8))) parts))), (12, [], .v (.c (.p (.int .i64) (parts.length : Int)))), (13, [], .v (.c (.p (.int .i64) v13))), (24, [], .v (.c (.p .bool (!decide (ret20v.2 = (0 : Int))))))], [(5003, [], .arr 5 (.int .u8) all)]⟩ : St)) (by kernel_rfl) ⟨trivial, trivial, trivial⟩ ?_
      refine awl_nil ?_
      refine thenQ_n ?_
      refine aw_cond (b := (!decide (ret20v.2 = (0 : Int)))) (by kernel_rfl) (fun hb => ?_) (fun hb => ?_)
      · have h := h.1 hb
        refine aw_seq ?_
        refine aw_region ?_
        refine awl_runp 2 [26] [26] (ob := (True ∧ True ∧ True)) (st' := (⟨86, [(26, [], .v (.c (.own 26)))], [(26, [], .arr 22 (.sl (.int .u8)) [(parts.getD (v13).toNat ([] : (List Int)))])]⟩ : St)) (by kernel_rfl) ⟨trivial, trivial, trivial⟩ ?_
        refine awl_callk (p := []) (l := [toV1 (.sl (.sl (.int .u8))) [(parts.getD (v13).toNat ([] : (List Int)))]]) (cl := []) true [.d (.sl (.sl (.int .u8)))] [27] [] (fun (ret27v : Bool) => K ret27v) (fun ret27v => [toV1 .bool ret27v]) (fun ret27v => (⟨86, [(27, [], .v (.c (.p .bool ret27v)))], []⟩ : St)) (by kernel_rfl) rfl (by kernel_rfl) rfl (by kernel_rfl) Try.call16 (by kernel_rfl) (fun ret27v => by kernel_rfl) (fun _ _ => rfl) (fun hg => link16 [(parts.getD (v13).toNat ([] : (List Int)))] _ h) (fun hg => noF hg) (fun ret27v h => ?_)
        have h : K ret27v := h
        refine awl_runp 1 [2] [] (ob := (True ∧ True)) (st' := (⟨86, [(2, [], .v (.c (.p .bool ret27v)))], []⟩ : St)) (by kernel_rfl) ⟨trivial, trivial⟩ ?_
        refine awl_nil ?_
        refine thenQ_n ?_
        refine aw_ret ?_
        refine thenQ_r ?_
        refine blockQ_r ?_
        refine thenQ_r ?_
        refine thenQ_r ?_
        refine blockQ_r ?_
        refine thenQ_r ?_
        exact retQ_r (σ := Bool) (R := (fun y => [toV1 .bool y])) (ob := (True ∧ True)) ret27v (by kernel_rfl) ⟨trivial, trivial⟩ h
      · have h := h.2 hb
        refine aw_skip ?_
        refine thenQ_n ?_
        refine aw_seq ?_
        refine aw_seq ?_
        refine aw_region ?_
        refine awl_runp 2 [0, 3, 4, 5, 6, 11, 12, 13, 28, 29] [5003] (ob := (True ∧ True ∧ True)) (st' := (⟨86, [(0, [], .v (.c (.p (.sl (.sl (.int .u8))) parts))), (3, [], .v (.c (.own 5003))), (4, [], .v (.c (.p (.int .i64) v13))), (5, [], .v (.c (.p (.sl (.int .u8)) (parts.getD (v13).toNat ([] : (List Int)))))), (6, [], .v (.c (.p .bool ret20v.1))), (11, [], .v (.c (.p (.sl (.sl (.int .u8))) parts))), (12, [], .v (.c (.p (.int .i64) (parts.length : Int)))), (13, [], .v (.c (.p (.int .i64) v13))), (28, [], .v (.c (.p .bool ret20v.1))), (29, [], .v (.c (.p (.sl (.int .u8)) (parts.getD (v13).toNat ([] : (List Int))))))], [(5003, [], .arr 5 (.int .u8) all)]⟩ : St)) (by kernel_rfl) ⟨trivial, trivial, trivial⟩ ?_
        refine awl_callk (p := []) (l := [toV1 (.sl (.int .u8)) (parts.getD (v13).toNat ([] : (List Int)))]) (cl := []) false [.d (.sl (.int .u8))] [0, 3, 4, 5, 6, 11, 12, 13, 28, 30] [5003] (fun (ret30v : Bool) => (((ret20v.1 != ret30v) = true → K false) ∧ ((ret20v.1 != ret30v) = false → (((!ret20v.1) = false → ((decide ((0 : Int) < v13)) = true → InR (v13 - (1 : Int)))) ∧ ((!ret20v.1) = false → ((decide ((0 : Int) < v13)) = true → inIdx (v13 - (1 : Int)) parts.length)) ∧ gcall (α := Bool) ((!(!ret20v.1)) && (decide ((0 : Int) < v13))) (VC29 (parts.getD ((v13 - (1 : Int))).toNat ([] : (List Int))) (parts.getD (v13).toNat ([] : (List Int)))) false (fun (ret44v : Bool) => ((((!ret20v.1) || ((decide ((0 : Int) < v13)) && ret44v)) = true → K true) ∧ (((!ret20v.1) || ((decide ((0 : Int) < v13)) && ret44v)) = false → (roomN (all.length + (parts.getD (v13).toNat ([] : (List Int))).length) ∧ (InR (v13 + (1 : Int)) ∧ X2 ((v13 + (1 : Int)), (all ++ (parts.getD (v13).toNat ([] : (List Int)))))))))))))) (fun ret30v => [toV1 .bool ret30v]) (fun ret30v => (⟨86, [(0, [], .v (.c (.p (.sl (.sl (.int .u8))) parts))), (3, [], .v (.c (.own 5003))), (4, [], .v (.c (.p (.int .i64) v13))), (5, [], .v (.c (.p (.sl (.int .u8)) (parts.getD (v13).toNat ([] : (List Int)))))), (6, [], .v (.c (.p .bool ret20v.1))), (11, [], .v (.c (.p (.sl (.sl (.int .u8))) parts))), (12, [], .v (.c (.p (.int .i64) (parts.length : Int)))), (13, [], .v (.c (.p (.int .i64) v13))), (28, [], .v (.c (.p .bool ret20v.1))), (30, [], .v (.c (.p .bool ret30v)))], [(5003, [], .arr 5 (.int .u8) all)]⟩ : St)) (by kernel_rfl) rfl (by kernel_rfl) rfl (by kernel_rfl) Try.call28 (by kernel_rfl) (fun ret30v => by kernel_rfl) (fun e => by cases e) (fun hg => link28 (parts.getD (v13).toNat ([] : (List Int))) _ h) (fun hg => noF hg) (fun ret30v h => ?_)
        have h : (((ret20v.1 != ret30v) = true → K false) ∧ ((ret20v.1 != ret30v) = false → (((!ret20v.1) = false → ((decide ((0 : Int) < v13)) = true → InR (v13 - (1 : Int)))) ∧ ((!ret20v.1) = false → ((decide ((0 : Int) < v13)) = true → inIdx (v13 - (1 : Int)) parts.length)) ∧ gcall (α := Bool) ((!(!ret20v.1)) && (decide ((0 : Int) < v13))) (VC29 (parts.getD ((v13 - (1 : Int))).toNat ([] : (List Int))) (parts.getD (v13).toNat ([] : (List Int)))) false (fun (ret44v : Bool) => ((((!ret20v.1) || ((decide ((0 : Int) < v13)) && ret44v)) = true → K true) ∧ (((!ret20v.1) || ((decide ((0 : Int) < v13)) && ret44v)) = false → (roomN (all.length + (parts.getD (v13).toNat ([] : (List Int))).length) ∧ (InR (v13 + (1 : Int)) ∧ X2 ((v13 + (1 : Int)), (all ++ (parts.getD (v13).toNat ([] : (List Int))))))))))))) := h
        refine awl_runp 1 [0, 3, 4, 5, 6, 11, 12, 13, 31] [5003] (ob := (True ∧ True)) (st' := (⟨86, [(0, [], .v (.c (.p (.sl (.sl (.int .u8))) parts))), (3, [], .v (.c (.own 5003))), (4, [], .v (.c (.p (.int .i64) v13))), (5, [], .v (.c (.p (.sl (.int .u8)) (parts.getD (v13).toNat ([] : (List Int)))))), (6, [], .v (.c (.p .bool ret20v.1))), (11, [], .v (.c (.p (.sl (.sl (.int .u8))) parts))), (12, [], .v (.c (.p (.int .i64) (parts.length : Int)))), (13, [], .v (.c (.p (.int .i64) v13))), (31, [], .v (.c (.p .bool (ret20v.1 != ret30v))))], [(5003, [], .arr 5 (.int .u8) all)]⟩ : St)) (by kernel_rfl) ⟨trivial, trivial⟩ ?_
        refine awl_nil ?_
        refine thenQ_n ?_
        refine aw_cond (b := (ret20v.1 != ret30v)) (by kernel_rfl) (fun hb => ?_) (fun hb => ?_)
        · have h := h.1 hb
          refine aw_seq ?_
          refine aw_region ?_
          refine awl_runp 1 [2] [] (ob := (True ∧ True)) (st' := (⟨86, [(2, [], .v (.c (.p .bool false)))], []⟩ : St)) (by kernel_rfl) ⟨trivial, trivial⟩ ?_
          refine awl_nil ?_
          refine thenQ_n ?_
          refine aw_ret ?_
          refine thenQ_r ?_
          refine blockQ_r ?_
          refine thenQ_r ?_
          refine thenQ_r ?_
          refine blockQ_r ?_
          refine thenQ_r ?_
          exact retQ_r (σ := Bool) (R := (fun y => [toV1 .bool y])) (ob := (True ∧ True)) false (by kernel_rfl) ⟨trivial, trivial⟩ h
        · have h := h.2 hb
          refine aw_skip ?_
          refine thenQ_n ?_
          refine aw_seq ?_
          refine aw_seq ?_
          refine aw_region ?_
          obtain ⟨o1, o2, h⟩ := h
          refine awl_runp 12 [0, 3, 5, 11, 12, 13, 34, 37, 42, 43] [5003] (ob := (True ∧ True ∧ True ∧ ((!ret20v.1) = false → True) ∧ ((!ret20v.1) = false → True) ∧ ((!ret20v.1) = false → True) ∧ ((!ret20v.1) = false → ((decide ((0 : Int) < v13)) = true → True)) ∧ ((!ret20v.1) = false → ((decide ((0 : Int) < v13)) = true → True)) ∧ ((!ret20v.1) = false → ((decide ((0 : Int) < v13)) = true → InR (v13 - (1 : Int)))) ∧ ((!ret20v.1) = false → ((decide ((0 : Int) < v13)) = true → inIdx (v13 - (1 : Int)) parts.length)) ∧ ((!ret20v.1) = false → ((decide ((0 : Int) < v13)) = true → True)) ∧ ((!ret20v.1) = false → ((decide ((0 : Int) < v13)) = true → True)) ∧ True)) (st' := (⟨86, [(0, [], .v (.c (.p (.sl (.sl (.int .u8))) parts))), (3, [], .v (.c (.own 5003))), (5, [], .v (.c (.p (.sl (.int .u8)) (parts.getD (v13).toNat ([] : (List Int)))))), (11, [], .v (.c (.p (.sl (.sl (.int .u8))) parts))), (12, [], .v (.c (.p (.int .i64) (parts.length : Int)))), (13, [], .v (.c (.p (.int .i64) v13))), (34, [], .v (.c (.p .bool (!ret20v.1)))), (37, [(34, false)], .v (.c (.p .bool (decide ((0 : Int) < v13))))), (42, [(34, false), (37, true)], .v (.c (.p (.sl (.int .u8)) (parts.getD ((v13 - (1 : Int))).toNat ([] : (List Int)))))), (43, [(34, false), (37, true)], .v (.c (.p (.sl (.int .u8)) (parts.getD (v13).toNat ([] : (List Int))))))], [(5003, [], .arr 5 (.int .u8) all)]⟩ : St)) (by kernel_rfl) ⟨trivial, trivial, trivial, (fun _ => trivial), (fun _ => trivial), (fun _ => trivial), (fun _ _ => trivial), (fun _ _ => trivial), o1, o2, (fun _ _ => trivial), (fun _ _ => trivial), trivial⟩ ?_
          refine awl_callk (p := [(34, false), (37, true)]) (l := [toV1 (.sl (.int .u8)) (parts.getD ((v13 - (1 : Int))).toNat ([] : (List Int))), toV1 (.sl (.int .u8)) (parts.getD (v13).toNat ([] : (List Int)))]) (cl := []) false [.d (.sl (.int .u8)), .d (.sl (.int .u8))] [0, 3, 5, 11, 12, 13, 34, 37, 44] [5003] (fun (ret44v : Bool) => ((((!ret20v.1) || ((decide ((0 : Int) < v13)) && ret44v)) = true → K true) ∧ (((!ret20v.1) || ((decide ((0 : Int) < v13)) && ret44v)) = false → (roomN (all.length + (parts.getD (v13).toNat ([] : (List Int))).length) ∧ (InR (v13 + (1 : Int)) ∧ X2 ((v13 + (1 : Int)), (all ++ (parts.getD (v13).toNat ([] : (List Int)))))))))) (fun ret44v => [toV1 .bool ret44v]) (fun ret44v => (⟨86, [(0, [], .v (.c (.p (.sl (.sl (.int .u8))) parts))), (3, [], .v (.c (.own 5003))), (5, [], .v (.c (.p (.sl (.int .u8)) (parts.getD (v13).toNat ([] : (List Int)))))), (11, [], .v (.c (.p (.sl (.sl (.int .u8))) parts))), (12, [], .v (.c (.p (.int .i64) (parts.length : Int)))), (13, [], .v (.c (.p (.int .i64) v13))), (34, [], .v (.c (.p .bool (!ret20v.1)))), (37, [(34, false)], .v (.c (.p .bool (decide ((0 : Int) < v13))))), (44, [(34, false), (37, true)], .v (.c (.p .bool ret44v)))], [(5003, [], .arr 5 (.int .u8) all)]⟩ : St)) (by kernel_rfl) rfl (by kernel_rfl) rfl (by kernel_rfl) Try.call29 (by kernel_rfl) (fun ret44v => by kernel_rfl) (fun e => by cases e) (fun hg => link29 (parts.getD ((v13 - (1 : Int))).toNat ([] : (List Int))) (parts.getD (v13).toNat ([] : (List Int))) _ (by have := gcall_T h (show ((!(!ret20v.1)) && (decide ((0 : Int) < v13))) = true from hg); exact this)) (fun hg => ⟨false, by have := gcall_F h (show ((!(!ret20v.1)) && (decide ((0 : Int) < v13))) = false from hg); exact this⟩) (fun ret44v h => ?_)
          have h : ((((!ret20v.1) || ((decide ((0 : Int) < v13)) && ret44v)) = true → K true) ∧ (((!ret20v.1) || ((decide ((0 : Int) < v13)) && ret44v)) = false → (roomN (all.length + (parts.getD (v13).toNat ([] : (List Int))).length) ∧ (InR (v13 + (1 : Int)) ∧ X2 ((v13 + (1 : Int)), (all ++ (parts.getD (v13).toNat ([] : (List Int))))))))) := h
          refine awl_runp 2 [0, 3, 5, 11, 12, 13, 46] [5003] (ob := (((!ret20v.1) = false → True) ∧ True ∧ True)) (st' := (⟨86, [(0, [], .v (.c (.p (.sl (.sl (.int .u8))) parts))), (3, [], .v (.c (.own 5003))), (5, [], .v (.c (.p (.sl (.int .u8)) (parts.getD (v13).toNat ([] : (List Int)))))), (11, [], .v (.c (.p (.sl (.sl (.int .u8))) parts))), (12, [], .v (.c (.p (.int .i64) (parts.length : Int)))), (13, [], .v (.c (.p (.int .i64) v13))), (46, [], .v (.c (.p .bool ((!ret20v.1) || ((decide ((0 : Int) < v13)) && ret44v)))))], [(5003, [], .arr 5 (.int .u8) all)]⟩ : St)) (by kernel_rfl) ⟨(fun _ => trivial), trivial, trivial⟩ ?_
          refine awl_nil ?_
          refine thenQ_n ?_
          refine aw_cond (b := ((!ret20v.1) || ((decide ((0 : Int) < v13)) && ret44v))) (by kernel_rfl) (fun hb => ?_) (fun hb => ?_)
          · have h := h.1 hb
            refine aw_seq ?_
            refine aw_region ?_
            refine awl_runp 1 [2] [] (ob := (True ∧ True)) (st' := (⟨86, [(2, [], .v (.c (.p .bool true)))], []⟩ : St)) (by kernel_rfl) ⟨trivial, trivial⟩ ?_
            refine awl_nil ?_
            refine thenQ_n ?_
            refine aw_ret ?_
            refine thenQ_r ?_
            refine blockQ_r ?_
            refine thenQ_r ?_
            refine thenQ_r ?_
            refine blockQ_r ?_
            refine thenQ_r ?_
            exact retQ_r (σ := Bool) (R := (fun y => [toV1 .bool y])) (ob := (True ∧ True)) true (by kernel_rfl) ⟨trivial, trivial⟩ h
          · have h := h.2 hb
            refine aw_skip ?_
            refine thenQ_n ?_
            refine aw_region ?_
            obtain ⟨o1, h⟩ := h
            refine awl_runp 4 [0, 3, 11, 12, 13] [49] (ob := (True ∧ True ∧ roomN (all.length + (parts.getD (v13).toNat ([] : (List Int))).length) ∧ True ∧ True)) (st' := (⟨86, [(0, [], .v (.c (.p (.sl (.sl (.int .u8))) parts))), (3, [], .v (.c (.own 49))), (11, [], .v (.c (.p (.sl (.sl (.int .u8))) parts))), (12, [], .v (.c (.p (.int .i64) (parts.length : Int)))), (13, [], .v (.c (.p (.int .i64) v13)))], [(49, [], .arr 5 (.int .u8) (all ++ (parts.getD (v13).toNat ([] : (List Int)))))]⟩ : St)) (by kernel_rfl) ⟨trivial, trivial, o1, trivial, trivial⟩ ?_
            refine awl_nil ?_
            refine blockQ_n ?_
            refine thenQ_n ?_
            refine aw_region ?_
            obtain ⟨o1, h⟩ := h
            refine awl_runp 2 [0, 3, 11, 12, 13] [49] (ob := (InR (v13 + (1 : Int)) ∧ True ∧ True)) (st' := (⟨86, [(0, [], .v (.c (.p (.sl (.sl (.int .u8))) parts))), (3, [], .v (.c (.own 49))), (11, [], .v (.c (.p (.sl (.sl (.int .u8))) parts))), (12, [], .v (.c (.p (.int .i64) (parts.length : Int)))), (13, [], .v (.c (.p (.int .i64) (v13 + (1 : Int)))))], [(49, [], .arr 5 (.int .u8) (all ++ (parts.getD (v13).toNat ([] : (List Int)))))]⟩ : St)) (by kernel_rfl) ⟨o1, trivial, trivial⟩ ?_
            refine awl_conv [.ren 49 20049, .ren 20049 5003] (st' := (⟨86, [(0, [], .v (.c (.p (.sl (.sl (.int .u8))) parts))), (3, [], .v (.c (.own 5003))), (11, [], .v (.c (.p (.sl (.sl (.int .u8))) parts))), (12, [], .v (.c (.p (.int .i64) (parts.length : Int)))), (13, [], .v (.c (.p (.int .i64) (v13 + (1 : Int)))))], [(5003, [], .arr 5 (.int .u8) (all ++ (parts.getD (v13).toNat ([] : (List Int)))))]⟩ : St)) (by kernel_rfl) ?_
            refine awl_nil ?_
            exact thenQ_n ⟨((v13 + (1 : Int)), (all ++ (parts.getD (v13).toNat ([] : (List Int))))), rfl, h⟩
    · have h := h.2 hb
      refine aw_conv [.prune [0, 3] [5003]] (st' := (⟨86, [(0, [], .v (.c (.p (.sl (.sl (.int .u8))) parts))), (3, [], .v (.c (.own 5003)))], [(5003, [], .arr 5 (.int .u8) all)]⟩ : St)) (by kernel_rfl) ?_
      refine aw_exit ?_
      refine thenQ_x ?_
      refine thenQ_x ?_
      refine blockQ_hit ?_
      exact rest2 all h

-- slices.Grow[[]byte,byte]
def VC48_k1 (K : (List Int) → Prop) (sv : (List Int)) : Prop :=
  K sv

def VC48 (n : Int) (K : (List Int) → Prop) : Prop :=
  (((decide (n < (0 : Int))) = true → False) ∧ ((decide (n < (0 : Int))) = false → (InR ((0 : Int) - (0 : Int)) ∧ InR (n - ((0 : Int) - (0 : Int))) ∧ (((decide ((0 : Int) < (n - ((0 : Int) - (0 : Int))))) = true → ((0 ≤ (0 : Int) ∧ (0 : Int) ≤ (0 : Int)) ∧ (0 < (n - ((0 : Int) - (0 : Int))) ∧ (n - ((0 : Int) - (0 : Int))) ≤ 4294967296) ∧ (0 ≤ (0 : Int) ∧ (0 : Int) ≤ ((List.replicate ((n - ((0 : Int) - (0 : Int)))).toNat (0 : Int)).length : Int)) ∧ VC48_k1 K ((List.replicate ((n - ((0 : Int) - (0 : Int)))).toNat (0 : Int)).take (((0 : Int)).toNat)))) ∧ ((decide ((0 : Int) < (n - ((0 : Int) - (0 : Int))))) = false → VC48_k1 K ([] : List Int))))))

set_option maxHeartbeats 4000000 in
theorem link48 (n : Int) (K : (List Int) → Prop) (h : VC48 n K) : ACallsO Try.prog 48 [.c .nils, toV1 (.int .i64) n] 5 (.int .u8) K := by
  refine acallsO_of_aw 4 Try.func48 rfl rfl rfl ?_
  unfold VC48 at h
  refine aw_seq ?_
  refine aw_region ?_
  refine awl_runp 1 [0, 1] [] (ob := (True ∧ True)) (st' := (⟨27, [(0, [], .v (.c (.nils))), (1, [], .v (.c (.p (.int .i64) n)))], []⟩ : St)) (by kernel_rfl) ⟨trivial, trivial⟩ ?_
  refine awl_nil ?_
  refine thenQ_n ?_
  refine aw_seq ?_
  refine aw_seq ?_
  refine aw_region ?_
  refine awl_runp 2 [0, 1, 6] [] (ob := (True ∧ True ∧ True)) (st' := (⟨27, [(0, [], .v (.c (.nils))), (1, [], .v (.c (.p (.int .i64) n))), (6, [], .v (.c (.p .bool (decide (n < (0 : Int))))))], []⟩ : St)) (by kernel_rfl) ⟨trivial, trivial, trivial⟩ ?_
  refine awl_nil ?_
  refine thenQ_n ?_
  refine aw_cond (b := (decide (n < (0 : Int)))) (by kernel_rfl) (fun hb => ?_) (fun hb => ?_)
  · have h := h.1 hb
    refine aw_region ?_
    exact h.elim
  · have h := h.2 hb
    refine aw_skip ?_
    refine thenQ_n ?_
    refine aw_seq ?_
    refine aw_seq ?_
    refine aw_region ?_
    obtain ⟨o1, o2, h⟩ := h
    refine awl_runp 8 [0, 1] [] (ob := (True ∧ True ∧ True ∧ True ∧ True ∧ InR ((0 : Int) - (0 : Int)) ∧ InR (n - ((0 : Int) - (0 : Int))) ∧ True ∧ True)) (st' := (⟨27, [(0, [], .v (.c (.nils))), (1, [], .v (.c (.p (.int .i64) (n - ((0 : Int) - (0 : Int))))))], []⟩ : St)) (by kernel_rfl) ⟨trivial, trivial, trivial, trivial, trivial, o1, o2, trivial, trivial⟩ ?_
    refine awl_nil ?_
    refine thenQ_n ?_
    refine aw_seq ?_
    refine aw_region ?_
    refine awl_runp 2 [0, 1, 16] [] (ob := (True ∧ True ∧ True)) (st' := (⟨27, [(0, [], .v (.c (.nils))), (1, [], .v (.c (.p (.int .i64) (n - ((0 : Int) - (0 : Int)))))), (16, [], .v (.c (.p .bool (decide ((0 : Int) < (n - ((0 : Int) - (0 : Int))))))))], []⟩ : St)) (by kernel_rfl) ⟨trivial, trivial, trivial⟩ ?_
    refine awl_nil ?_
    refine thenQ_n ?_
    refine withJoin (σ := (List Int)) (fun s => (⟨27, [(0, [], .v (.c (.own 22)))], [(22, [], .arr 5 (.int .u8) s)]⟩ : St)) (fun s => VC48_k1 K s) (fun sv h => ?_) (fun rest1 => ?_)
    · have h : VC48_k1 K sv := h
      unfold VC48_k1 at h
      refine thenQ_n ?_
      refine aw_seq ?_
      refine aw_region ?_
      refine awl_runp 2 [4] [22] (ob := (True ∧ True ∧ True)) (st' := (⟨27, [(4, [], .v (.c (.own 22)))], [(22, [], .arr 5 (.int .u8) sv)]⟩ : St)) (by kernel_rfl) ⟨trivial, trivial, trivial⟩ ?_
      refine awl_nil ?_
      refine thenQ_n ?_
      refine aw_ret ?_
      exact ⟨22, _, by kernel_rfl, by kernel_rfl, h⟩
    · refine aw_cond (b := (decide ((0 : Int) < (n - ((0 : Int) - (0 : Int)))))) (by kernel_rfl) (fun hb => ?_) (fun hb => ?_)
      · have h := h.1 hb
        refine aw_region ?_
        obtain ⟨o1, o2, o3, h⟩ := h
        refine awl_runp 10 [0] [22] (ob := (True ∧ True ∧ True ∧ (0 ≤ (0 : Int) ∧ (0 : Int) ≤ (0 : Int)) ∧ True ∧ (0 < (n - ((0 : Int) - (0 : Int))) ∧ (n - ((0 : Int) - (0 : Int))) ≤ 4294967296) ∧ True ∧ True ∧ (0 ≤ (0 : Int) ∧ (0 : Int) ≤ ((List.replicate ((n - ((0 : Int) - (0 : Int)))).toNat (0 : Int)).length : Int)) ∧ True ∧ True)) (st' := (⟨27, [(0, [], .v (.c (.vw 22 0 (((0 : Int)).toNat) 1)))], [(22, [], .arr 5 (.int .u8) (List.replicate ((n - ((0 : Int) - (0 : Int)))).toNat (0 : Int)))]⟩ : St)) (by kernel_rfl) ⟨trivial, trivial, trivial, o1, trivial, o2, trivial, trivial, o3, trivial, trivial⟩ ?_
        refine awl_conv [.cut 0 22] (st' := (⟨27, [(0, [], .v (.c (.own 22)))], [(22, [], .arr 5 (.int .u8) ((List.replicate ((n - ((0 : Int) - (0 : Int)))).toNat (0 : Int)).take (((0 : Int)).toNat)))]⟩ : St)) (by kernel_rfl) ?_
        refine awl_nil ?_
        exact rest1 ((List.replicate ((n - ((0 : Int) - (0 : Int)))).toNat (0 : Int)).take (((0 : Int)).toNat)) h
      · have h := h.2 hb
        refine aw_conv [.prune [0] [], .nilOwn 0 5000 5 (.int .u8), .ren 5000 25000, .ren 25000 22] (st' := (⟨27, [(0, [], .v (.c (.own 22)))], [(22, [], .arr 5 (.int .u8) ([] : List Int))]⟩ : St)) (by kernel_rfl) ?_
        refine aw_skip ?_
        exact rest1 ([] : List Int) h

-- slices.Concat[[]byte,byte]
def VC44_k2 (K : (List Int) → Prop) (newslice : (List Int)) : Prop :=
  K newslice

def VC44_l1 (slices : (List (List Int))) (K : (List Int) → Prop) (v27 : Int) (newslice : (List Int)) (X1 : Int × (List Int) → Prop) : Prop :=
  (((decide (v27 < (slices.length : Int))) = true → (inIdx v27 slices.length ∧ (roomN (newslice.length + (slices.getD (v27).toNat ([] : (List Int))).length) ∧ (InR (v27 + (1 : Int)) ∧ X1 ((v27 + (1 : Int)), (newslice ++ (slices.getD (v27).toNat ([] : (List Int))))))))) ∧ ((decide (v27 < (slices.length : Int))) = false → VC44_k2 K newslice))

def VC44_k1 (slices : (List (List Int))) (K : (List Int) → Prop) (size : Int) : Prop :=
  VC48 size (fun (ret24v : (List Int)) => Loop (σ := Int × (List Int)) (fun s X => VC44_l1 slices K s.1 s.2 X) ((0 : Int), ret24v))

def VC44_l2 (slices : (List (List Int))) (K : (List Int) → Prop) (size : Int) (v11 : Int) (X2 : Int × Int → Prop) : Prop :=
  (((decide (v11 < (slices.length : Int))) = true → (inIdx v11 slices.length ∧ (InR (size + ((slices.getD (v11).toNat ([] : (List Int))).length : Int)) ∧ (((decide ((size + ((slices.getD (v11).toNat ([] : (List Int))).length : Int)) < (0 : Int))) = true → False) ∧ ((decide ((size + ((slices.getD (v11).toNat ([] : (List Int))).length : Int)) < (0 : Int))) = false → (InR (v11 + (1 : Int)) ∧ X2 ((size + ((slices.getD (v11).toNat ([] : (List Int))).length : Int)), (v11 + (1 : Int))))))))) ∧ ((decide (v11 < (slices.length : Int))) = false → VC44_k1 slices K size))

def VC44 (slices : (List (List Int))) (K : (List Int) → Prop) : Prop :=
  Loop (σ := Int × Int) (fun s X => VC44_l2 slices K s.1 s.2 X) ((0 : Int), (0 : Int))

set_option maxHeartbeats 4000000 in
theorem link44 (slices : (List (List Int))) (K : (List Int) → Prop) (h : VC44 slices K) : ACallsO Try.prog 44 [toV1 (.sl (.sl (.int .u8))) slices] 5 (.int .u8) K := by
  refine acallsO_of_aw 2 Try.func44 rfl rfl rfl ?_
  unfold VC44 at h
  refine aw_seq ?_
  refine aw_region ?_
  refine awl_runp 1 [0] [] (ob := (True ∧ True)) (st' := (⟨36, [(0, [], .v (.c (.p (.sl (.sl (.int .u8))) slices)))], []⟩ : St)) (by kernel_rfl) ⟨trivial, trivial⟩ ?_
  refine awl_nil ?_
  refine thenQ_n ?_
  refine aw_seq ?_
  refine aw_region ?_
  refine awl_runp 1 [0, 3] [] (ob := (True ∧ True)) (st' := (⟨36, [(0, [], .v (.c (.p (.sl (.sl (.int .u8))) slices))), (3, [], .v (.c (.p (.int .i64) (0 : Int))))], []⟩ : St)) (by kernel_rfl) ⟨trivial, trivial⟩ ?_
  refine awl_nil ?_
  refine thenQ_n ?_
  refine aw_seq ?_
  refine aw_seq ?_
  refine aw_region ?_
  refine awl_runp 3 [0, 3, 9, 10, 11] [] (ob := (True ∧ True ∧ True ∧ True)) (st' := (⟨36, [(0, [], .v (.c (.p (.sl (.sl (.int .u8))) slices))), (3, [], .v (.c (.p (.int .i64) (0 : Int)))), (9, [], .v (.c (.p (.sl (.sl (.int .u8))) slices))), (10, [], .v (.c (.p (.int .i64) (slices.length : Int)))), (11, [], .v (.c (.p (.int .i64) (0 : Int))))], []⟩ : St)) (by kernel_rfl) ⟨trivial, trivial, trivial, trivial⟩ ?_
  refine awl_nil ?_
  refine thenQ_n ?_
  refine withJoin (σ := Int) (fun s => (⟨36, [(0, [], .v (.c (.p (.sl (.sl (.int .u8))) slices))), (3, [], .v (.c (.p (.int .i64) s)))], []⟩ : St)) (fun s => VC44_k1 slices K s) (fun size h => ?_) (fun rest2 => ?_)
  · have h : VC44_k1 slices K size := h
    unfold VC44_k1 at h
    refine thenQ_n ?_
    refine aw_seq ?_
    refine aw_region ?_
    refine awl_runp 1 [0, 23] [] (ob := (True ∧ True)) (st' := (⟨36, [(0, [], .v (.c (.p (.sl (.sl (.int .u8))) slices))), (23, [], .v (.c (.p (.int .i64) size)))], []⟩ : St)) (by kernel_rfl) ⟨trivial, trivial⟩ ?_
    refine awl_callOk (e := 5) (t := (.int .u8)) (l := [.c .nils, toV1 (.int .i64) size]) (cl := []) false [.nil, .d (.int .i64)] [0, 24] [24] (fun (ret24v : (List Int)) => Loop (σ := Int × (List Int)) (fun s X => VC44_l1 slices K s.1 s.2 X) ((0 : Int), ret24v)) (fun ret24v => (⟨36, [(0, [], .v (.c (.p (.sl (.sl (.int .u8))) slices))), (24, [], .v (.c (.own 24)))], [(24, [], .arr 5 (.int .u8) ret24v)]⟩ : St)) rfl rfl (by kernel_rfl) rfl (by kernel_rfl) Try.call48 (by kernel_rfl) (fun e => by cases e) (fun ret24v => by kernel_rfl) (link48 size _ h) (fun ret24v h => ?_)
    have h : Loop (σ := Int × (List Int)) (fun s X => VC44_l1 slices K s.1 s.2 X) ((0 : Int), ret24v) := h
    refine awl_runp 1 [0, 6] [24] (ob := (True ∧ True)) (st' := (⟨36, [(0, [], .v (.c (.p (.sl (.sl (.int .u8))) slices))), (6, [], .v (.c (.own 24)))], [(24, [], .arr 5 (.int .u8) ret24v)]⟩ : St)) (by kernel_rfl) ⟨trivial, trivial⟩ ?_
    refine awl_nil ?_
    refine thenQ_n ?_
    refine aw_seq ?_
    refine aw_seq ?_
    refine aw_region ?_
    refine awl_runp 3 [6, 25, 26, 27] [24] (ob := (True ∧ True ∧ True ∧ True)) (st' := (⟨36, [(6, [], .v (.c (.own 24))), (25, [], .v (.c (.p (.sl (.sl (.int .u8))) slices))), (26, [], .v (.c (.p (.int .i64) (slices.length : Int)))), (27, [], .v (.c (.p (.int .i64) (0 : Int))))], [(24, [], .arr 5 (.int .u8) ret24v)]⟩ : St)) (by kernel_rfl) ⟨trivial, trivial, trivial, trivial⟩ ?_
    refine awl_nil ?_
    refine thenQ_n ?_
    refine withJoin (σ := (List Int)) (fun s => (⟨36, [(6, [], .v (.c (.own 24)))], [(24, [], .arr 5 (.int .u8) s)]⟩ : St)) (fun s => VC44_k2 K s) (fun newslice h => ?_) (fun rest1 => ?_)
    · have h : VC44_k2 K newslice := h
      unfold VC44_k2 at h
      refine thenQ_n ?_
      refine aw_seq ?_
      refine aw_region ?_
      refine awl_runp 2 [2] [24] (ob := (True ∧ True ∧ True)) (st' := (⟨36, [(2, [], .v (.c (.own 24)))], [(24, [], .arr 5 (.int .u8) newslice)]⟩ : St)) (by kernel_rfl) ⟨trivial, trivial, trivial⟩ ?_
      refine awl_nil ?_
      refine thenQ_n ?_
      refine aw_ret ?_
      exact ⟨24, _, by kernel_rfl, by kernel_rfl, h⟩
    · refine aw_block ?_
      refine aw_loop (σ := Int × (List Int)) (fun s => (⟨36, [(6, [], .v (.c (.own 24))), (25, [], .v (.c (.p (.sl (.sl (.int .u8))) slices))), (26, [], .v (.c (.p (.int .i64) (slices.length : Int)))), (27, [], .v (.c (.p (.int .i64) s.1)))], [(24, [], .arr 5 (.int .u8) s.2)]⟩ : St)) (fun s X => VC44_l1 slices K s.1 s.2 X) (s0 := ((0 : Int), ret24v)) (fun s X1 h => ?_) h
      obtain ⟨v27, newslice⟩ := s
      have h : VC44_l1 slices K v27 newslice X1 := h
      unfold VC44_l1 at h
      refine aw_seq ?_
      refine aw_region ?_
      refine awl_runp 1 [6, 25, 26, 27, 28] [24] (ob := (True ∧ True)) (st' := (⟨36, [(6, [], .v (.c (.own 24))), (25, [], .v (.c (.p (.sl (.sl (.int .u8))) slices))), (26, [], .v (.c (.p (.int .i64) (slices.length : Int)))), (27, [], .v (.c (.p (.int .i64) v27))), (28, [], .v (.c (.p .bool (decide (v27 < (slices.length : Int))))))], [(24, [], .arr 5 (.int .u8) newslice)]⟩ : St)) (by kernel_rfl) ⟨trivial, trivial⟩ ?_
      refine awl_nil ?_
      refine thenQ_n ?_
      refine aw_seq ?_
      refine aw_cond (b := (decide (v27 < (slices.length : Int)))) (by kernel_rfl) (fun hb => ?_) (fun hb => ?_)
      · have h := h.1 hb
        refine aw_skip ?_
        refine thenQ_n ?_
        refine aw_seq ?_
        refine aw_block ?_
        refine aw_seq ?_
        refine aw_region ?_
        obtain ⟨o1, h⟩ := h
        refine awl_runp 3 [6, 8, 25, 26, 27] [24] (ob := (inIdx v27 slices.length ∧ True ∧ True ∧ True)) (st' := (⟨36, [(6, [], .v (.c (.own 24))), (8, [], .v (.c (.p (.sl (.int .u8)) (slices.getD (v27).toNat ([] : (List Int)))))), (25, [], .v (.c (.p (.sl (.sl (.int .u8))) slices))), (26, [], .v (.c (.p (.int .i64) (slices.length : Int)))), (27, [], .v (.c (.p (.int .i64) v27)))], [(24, [], .arr 5 (.int .u8) newslice)]⟩ : St)) (by kernel_rfl) ⟨o1, trivial, trivial, trivial⟩ ?_
        refine awl_nil ?_
        refine thenQ_n ?_
        refine aw_region ?_
        obtain ⟨o1, h⟩ := h
        refine awl_runp 4 [6, 25, 26, 27] [33] (ob := (True ∧ True ∧ roomN (newslice.length + (slices.getD (v27).toNat ([] : (List Int))).length) ∧ True ∧ True)) (st' := (⟨36, [(6, [], .v (.c (.own 33))), (25, [], .v (.c (.p (.sl (.sl (.int .u8))) slices))), (26, [], .v (.c (.p (.int .i64) (slices.length : Int)))), (27, [], .v (.c (.p (.int .i64) v27)))], [(33, [], .arr 5 (.int .u8) (newslice ++ (slices.getD (v27).toNat ([] : (List Int)))))]⟩ : St)) (by kernel_rfl) ⟨trivial, trivial, o1, trivial, trivial⟩ ?_
        refine awl_nil ?_
        refine blockQ_n ?_
        refine thenQ_n ?_
        refine aw_region ?_
        obtain ⟨o1, h⟩ := h
        refine awl_runp 2 [6, 25, 26, 27] [33] (ob := (InR (v27 + (1 : Int)) ∧ True ∧ True)) (st' := (⟨36, [(6, [], .v (.c (.own 33))), (25, [], .v (.c (.p (.sl (.sl (.int .u8))) slices))), (26, [], .v (.c (.p (.int .i64) (slices.length : Int)))), (27, [], .v (.c (.p (.int .i64) (v27 + (1 : Int)))))], [(33, [], .arr 5 (.int .u8) (newslice ++ (slices.getD (v27).toNat ([] : (List Int)))))]⟩ : St)) (by kernel_rfl) ⟨o1, trivial, trivial⟩ ?_
        refine awl_conv [.ren 33 20033, .ren 20033 24] (st' := (⟨36, [(6, [], .v (.c (.own 24))), (25, [], .v (.c (.p (.sl (.sl (.int .u8))) slices))), (26, [], .v (.c (.p (.int .i64) (slices.length : Int)))), (27, [], .v (.c (.p (.int .i64) (v27 + (1 : Int)))))], [(24, [], .arr 5 (.int .u8) (newslice ++ (slices.getD (v27).toNat ([] : (List Int)))))]⟩ : St)) (by kernel_rfl) ?_
        refine awl_nil ?_
        exact thenQ_n ⟨((v27 + (1 : Int)), (newslice ++ (slices.getD (v27).toNat ([] : (List Int))))), rfl, h⟩
      · have h := h.2 hb
        refine aw_conv [.prune [6] [24]] (st' := (⟨36, [(6, [], .v (.c (.own 24)))], [(24, [], .arr 5 (.int .u8) newslice)]⟩ : St)) (by kernel_rfl) ?_
        refine aw_exit ?_
        refine thenQ_x ?_
        refine thenQ_x ?_
        refine blockQ_hit ?_
        exact rest1 newslice h
  · refine aw_block ?_
    refine aw_loop (σ := Int × Int) (fun s => (⟨36, [(0, [], .v (.c (.p (.sl (.sl (.int .u8))) slices))), (3, [], .v (.c (.p (.int .i64) s.1))), (9, [], .v (.c (.p (.sl (.sl (.int .u8))) slices))), (10, [], .v (.c (.p (.int .i64) (slices.length : Int)))), (11, [], .v (.c (.p (.int .i64) s.2)))], []⟩ : St)) (fun s X => VC44_l2 slices K s.1 s.2 X) (s0 := ((0 : Int), (0 : Int))) (fun s X2 h => ?_) h
    obtain ⟨size, v11⟩ := s
    have h : VC44_l2 slices K size v11 X2 := h
    unfold VC44_l2 at h
    refine aw_seq ?_
    refine aw_region ?_
    refine awl_runp 1 [0, 3, 9, 10, 11, 12] [] (ob := (True ∧ True)) (st' := (⟨36, [(0, [], .v (.c (.p (.sl (.sl (.int .u8))) slices))), (3, [], .v (.c (.p (.int .i64) size))), (9, [], .v (.c (.p (.sl (.sl (.int .u8))) slices))), (10, [], .v (.c (.p (.int .i64) (slices.length : Int)))), (11, [], .v (.c (.p (.int .i64) v11))), (12, [], .v (.c (.p .bool (decide (v11 < (slices.length : Int))))))], []⟩ : St)) (by kernel_rfl) ⟨trivial, trivial⟩ ?_
    refine awl_nil ?_
    refine thenQ_n ?_
    refine aw_seq ?_
    refine aw_cond (b := (decide (v11 < (slices.length : Int)))) (by kernel_rfl) (fun hb => ?_) (fun hb => ?_)
    · have h := h.1 hb
      refine aw_skip ?_
      refine thenQ_n ?_
      refine aw_seq ?_
      refine aw_block ?_
      refine aw_seq ?_
      refine aw_region ?_
      obtain ⟨o1, h⟩ := h
      refine awl_runp 3 [0, 3, 5, 9, 10, 11] [] (ob := (inIdx v11 slices.length ∧ True ∧ True ∧ True)) (st' := (⟨36, [(0, [], .v (.c (.p (.sl (.sl (.int .u8))) slices))), (3, [], .v (.c (.p (.int .i64) size))), (5, [], .v (.c (.p (.sl (.int .u8)) (slices.getD (v11).toNat ([] : (List Int)))))), (9, [], .v (.c (.p (.sl (.sl (.int .u8))) slices))), (10, [], .v (.c (.p (.int .i64) (slices.length : Int)))), (11, [], .v (.c (.p (.int .i64) v11)))], []⟩ : St)) (by kernel_rfl) ⟨o1, trivial, trivial, trivial⟩ ?_
      refine awl_nil ?_
      refine thenQ_n ?_
      refine aw_seq ?_
      refine aw_region ?_
      obtain ⟨o1, h⟩ := h
      refine awl_runp 5 [0, 3, 9, 10, 11] [] (ob := (True ∧ True ∧ True ∧ InR (size + ((slices.getD (v11).toNat ([] : (List Int))).length : Int)) ∧ True ∧ True)) (st' := (⟨36, [(0, [], .v (.c (.p (.sl (.sl (.int .u8))) slices))), (3, [], .v (.c (.p (.int .i64) (size + ((slices.getD (v11).toNat ([] : (List Int))).length : Int))))), (9, [], .v (.c (.p (.sl (.sl (.int .u8))) slices))), (10, [], .v (.c (.p (.int .i64) (slices.length : Int)))), (11, [], .v (.c (.p (.int .i64) v11)))], []⟩ : St)) (by kernel_rfl) ⟨trivial, trivial, trivial, o1, trivial, trivial⟩ ?_
      refine awl_nil ?_
      refine thenQ_n ?_
      refine aw_seq ?_
      refine aw_region ?_
      refine awl_runp 2 [0, 3, 9, 10, 11, 20] [] (ob := (True ∧ True ∧ True)) (st' := (⟨36, [(0, [], .v (.c (.p (.sl (.sl (.int .u8))) slices))), (3, [], .v (.c (.p (.int .i64) (size + ((slices.getD (v11).toNat ([] : (List Int))).length : Int))))), (9, [], .v (.c (.p (.sl (.sl (.int .u8))) slices))), (10, [], .v (.c (.p (.int .i64) (slices.length : Int)))), (11, [], .v (.c (.p (.int .i64) v11))), (20, [], .v (.c (.p .bool (decide ((size + ((slices.getD (v11).toNat ([] : (List Int))).length : Int)) < (0 : Int))))))], []⟩ : St)) (by kernel_rfl) ⟨trivial, trivial, trivial⟩ ?_
      refine awl_nil ?_
      refine thenQ_n ?_
      refine aw_cond (b := (decide ((size + ((slices.getD (v11).toNat ([] : (List Int))).length : Int)) < (0 : Int)))) (by kernel_rfl) (fun hb => ?_) (fun hb => ?_)
      · have h := h.1 hb
        refine aw_region ?_
        exact h.elim
      · have h := h.2 hb
        refine aw_skip ?_
        refine blockQ_n ?_
        refine thenQ_n ?_
        refine aw_region ?_
        obtain ⟨o1, h⟩ := h
        refine awl_runp 2 [0, 3, 9, 10, 11] [] (ob := (InR (v11 + (1 : Int)) ∧ True ∧ True)) (st' := (⟨36, [(0, [], .v (.c (.p (.sl (.sl (.int .u8))) slices))), (3, [], .v (.c (.p (.int .i64) (size + ((slices.getD (v11).toNat ([] : (List Int))).length : Int))))), (9, [], .v (.c (.p (.sl (.sl (.int .u8))) slices))), (10, [], .v (.c (.p (.int .i64) (slices.length : Int)))), (11, [], .v (.c (.p (.int .i64) (v11 + (1 : Int)))))], []⟩ : St)) (by kernel_rfl) ⟨o1, trivial, trivial⟩ ?_
        refine awl_nil ?_
        exact thenQ_n ⟨((size + ((slices.getD (v11).toNat ([] : (List Int))).length : Int)), (v11 + (1 : Int))), rfl, h⟩
    · have h := h.2 hb
      refine aw_conv [.prune [0, 3] []] (st' := (⟨36, [(0, [], .v (.c (.p (.sl (.sl (.int .u8))) slices))), (3, [], .v (.c (.p (.int .i64) size)))], []⟩ : St)) (by kernel_rfl) ?_
      refine aw_exit ?_
      refine thenQ_x ?_
      refine thenQ_x ?_
      refine blockQ_hit ?_
      exact rest2 size h

def VC40 (a b : List Int) (K : Bool → Prop) : Prop := K (decide (a = b))

theorem link40 (a b : List Int) (K : Bool → Prop) (h : VC40 a b K) : ACalls Try.prog 40 [toV1 (.sl (.int .u8)) a, toV1 (.sl (.int .u8)) b] (fun res => ∃ y, res = (fun y => [toV1 .bool y]) y ∧ K y) := by
  refine acalls_of_aw [.bool] [.t 4] Try.func40 rfl rfl rfl ?_
  refine aw_seq ?_
  refine aw_region ?_
  refine awl_runp 1 [0, 1] [] (ob := (True ∧ True)) (st' := (⟨10, [(0, [], .v (.c (.p (.sl (.int .u8)) a))), (1, [], .v (.c (.p (.sl (.int .u8)) b)))], []⟩ : St)) (by kernel_rfl) ⟨trivial, trivial⟩ ?_
  refine awl_nil ?_
  refine thenQ_n ?_
  refine aw_seq ?_
  refine aw_region ?_
  intro w0 S0 G a0 w hs
  have ha : Enc w G.S (.sl (.int .u8)) a [a0.eval (.tmp 0)] := hs.val_ (p := []) (x := .tmp 0) holds_nil rfl
  have hb : Enc w G.S (.sl (.int .u8)) b [a0.eval (.tmp 1)] := hs.val_ (p := []) (x := .tmp 1) holds_nil rfl
  have hsz : a0.tmps.size = 10 := hs.size
  have e1 := enc_string (P := Try.prog) ha Try.underlying22 Try.underlying5 Try.underlying9
  have e2 := enc_string (P := Try.prog) hb Try.underlying22 Try.underlying5 Try.underlying9
  refine wpl_val (a0.eval (.tmp 0)) rfl rfl (by rfl) ?_
  refine wpl_val (.string (strOfNums a)) (d := 6) rfl rfl ?_ ?_
  · unfold execOp
    simp only []
    rw [eval_hit (by simp [hsz])]
    simp only [Sem.run_bind, Sem.run_map, e1, Result.andThen_ok, Sem.run_pure]
  refine wpl_val (a0.eval (.tmp 1)) (d := 7) rfl rfl ?_ ?_
  · unfold execOp
    simp only []
    rw [eval_miss (by decide), eval_miss (by decide)]
    rfl
  refine wpl_val (.string (strOfNums b)) (d := 8) rfl rfl ?_ ?_
  · unfold execOp
    simp only []
    rw [eval_hit (by simp [Act.put, hsz])]
    simp only [Sem.run_bind, Sem.run_map, e2, Result.andThen_ok, Sem.run_pure]
  refine wpl_val (.bool (decide (a = b))) (d := 9) rfl rfl ?_ ?_
  · unfold execOp
    simp only []
    rw [eval_hit (by simp [Act.put, hsz]), eval_miss (by decide), eval_miss (by decide), eval_hit (by simp [Act.put, hsz])]
    simp only [binOp_string_eql, Sem.run_bind, Sem.run_map, Result.andThen_ok, Sem.run_pure, strOfNums_beq (enc_bytes ha) (enc_bytes hb)]
    simp [eqGuard, run_underlying Try.underlying9]
  refine wpl_val (.bool (decide (a = b))) (d := 4) rfl rfl ?_ ?_
  · unfold execOp
    simp only []
    rw [eval_hit (by simp [Act.put, hsz])]
    rfl
  have s1 := hs.put (i := 5) (p := []) (x := .v (.c .any)) (v := a0.eval (.tmp 0)) (show (_ : Nat) < 10 by decide) rfl (fun _ => trivial) (fun hn => absurd holds_nil hn)
  have s2 := s1.put (i := 6) (p := []) (x := .v (.c .any)) (v := .string (strOfNums a)) (show (_ : Nat) < 10 by decide) rfl (fun _ => trivial) (fun hn => absurd holds_nil hn)
  have s3 := s2.put (i := 7) (p := []) (x := .v (.c .any)) (v := a0.eval (.tmp 1)) (show (_ : Nat) < 10 by decide) rfl (fun _ => trivial) (fun hn => absurd holds_nil hn)
  have s4 := s3.put (i := 8) (p := []) (x := .v (.c .any)) (v := .string (strOfNums b)) (show (_ : Nat) < 10 by decide) rfl (fun _ => trivial) (fun hn => absurd holds_nil hn)
  have s5 := s4.put (i := 9) (p := []) (x := .v (.c .any)) (v := .bool (decide (a = b))) (show (_ : Nat) < 10 by decide) rfl (fun _ => trivial) (fun hn => absurd holds_nil hn)
  have s6 := s5.put (i := 4) (p := []) (x := .v (.c (.p .bool (decide (a = b))))) (v := .bool (decide (a = b))) (show (_ : Nat) < 10 by decide) rfl (fun _ => rfl) (fun hn => absurd holds_nil hn)
  refine ⟨G, _, s6, thenQ_n (aw_ret ?_)⟩
  exact retQ_r (σ := Bool) (ob := (True ∧ True)) (R := (fun y => [toV1 .bool y])) (decide (a = b)) (by rfl) ⟨trivial, trivial⟩ h

-- coppicer/power.Meet
def VC31 (u : (List Int)) (v : (List Int)) (K : Bool × Int → Prop) : Prop :=
  VC38 [u, v] (fun (ret10v : Int) => (((!decide (ret10v = (0 : Int))) = true → K (false, ret10v)) ∧ ((!decide (ret10v = (0 : Int))) = false → VC44 [u, v] (fun (ret17v : (List Int)) => VC44 [v, u] (fun (ret21v : (List Int)) => VC40 ret17v ret21v (fun (ret22v : Bool) => K (ret22v, (0 : Int))))))))

set_option maxHeartbeats 4000000 in
theorem link31 (u : (List Int)) (v : (List Int)) (K : Bool × Int → Prop) (h : VC31 u v K) : ACalls Try.prog 31 [toV1 (.sl (.int .u8)) u, toV1 (.sl (.int .u8)) v] (fun res => ∃ y, res = (fun y => [toV1 .bool y.1, toV1 (.int .i64) y.2]) y ∧ K y) := by
  refine acalls_of_aw [.bool, (.int .i64)] [.t 4, .t 5] Try.func31 rfl rfl rfl ?_
  unfold VC31 at h
  refine aw_seq ?_
  refine aw_region ?_
  refine awl_runp 2 [0, 1] [] (ob := (True ∧ True ∧ True)) (st' := (⟨23, [(0, [], .v (.c (.p (.sl (.int .u8)) u))), (1, [], .v (.c (.p (.sl (.int .u8)) v)))], []⟩ : St)) (by kernel_rfl) ⟨trivial, trivial, trivial⟩ ?_
  refine awl_nil ?_
  refine thenQ_n ?_
  refine aw_seq ?_
  refine aw_seq ?_
  refine aw_region ?_
  refine awl_runp 3 [0, 1, 9] [9] (ob := (True ∧ True ∧ True ∧ True)) (st' := (⟨23, [(0, [], .v (.c (.p (.sl (.int .u8)) u))), (1, [], .v (.c (.p (.sl (.int .u8)) v))), (9, [], .v (.c (.own 9)))], [(9, [], .arr 22 (.sl (.int .u8)) [u, v])]⟩ : St)) (by kernel_rfl) ⟨trivial, trivial, trivial, trivial⟩ ?_
  refine awl_callk (p := []) (l := [toV1 (.sl (.sl (.int .u8))) [u, v]]) (cl := []) true [.d (.sl (.sl (.int .u8)))] [0, 1, 10] [] (fun (ret10v : Int) => (((!decide (ret10v = (0 : Int))) = true → K (false, ret10v)) ∧ ((!decide (ret10v = (0 : Int))) = false → VC44 [u, v] (fun (ret17v : (List Int)) => VC44 [v, u] (fun (ret21v : (List Int)) => VC40 ret17v ret21v (fun (ret22v : Bool) => K (ret22v, (0 : Int)))))))) (fun ret10v => [toV1 (.int .i64) ret10v]) (fun ret10v => (⟨23, [(0, [], .v (.c (.p (.sl (.int .u8)) u))), (1, [], .v (.c (.p (.sl (.int .u8)) v))), (10, [], .v (.c (.p (.int .i64) ret10v)))], []⟩ : St)) (by kernel_rfl) rfl (by kernel_rfl) rfl (by kernel_rfl) Try.call38 (by kernel_rfl) (fun ret10v => by kernel_rfl) (fun _ _ => rfl) (fun hg => link38 [u, v] _ h) (fun hg => noF hg) (fun ret10v h => ?_)
  have h : (((!decide (ret10v = (0 : Int))) = true → K (false, ret10v)) ∧ ((!decide (ret10v = (0 : Int))) = false → VC44 [u, v] (fun (ret17v : (List Int)) => VC44 [v, u] (fun (ret21v : (List Int)) => VC40 ret17v ret21v (fun (ret22v : Bool) => K (ret22v, (0 : Int))))))) := h
  refine awl_runp 1 [0, 1, 6] [] (ob := (True ∧ True)) (st' := (⟨23, [(0, [], .v (.c (.p (.sl (.int .u8)) u))), (1, [], .v (.c (.p (.sl (.int .u8)) v))), (6, [], .v (.c (.p (.int .i64) ret10v)))], []⟩ : St)) (by kernel_rfl) ⟨trivial, trivial⟩ ?_
  refine awl_nil ?_
  refine thenQ_n ?_
  refine aw_seq ?_
  refine aw_region ?_
  refine awl_runp 2 [0, 1, 6, 12] [] (ob := (True ∧ True ∧ True)) (st' := (⟨23, [(0, [], .v (.c (.p (.sl (.int .u8)) u))), (1, [], .v (.c (.p (.sl (.int .u8)) v))), (6, [], .v (.c (.p (.int .i64) ret10v))), (12, [], .v (.c (.p .bool (!decide (ret10v = (0 : Int))))))], []⟩ : St)) (by kernel_rfl) ⟨trivial, trivial, trivial⟩ ?_
  refine awl_nil ?_
  refine thenQ_n ?_
  refine aw_cond (b := (!decide (ret10v = (0 : Int)))) (by kernel_rfl) (fun hb => ?_) (fun hb => ?_)
  · have h := h.1 hb
    refine aw_seq ?_
    refine aw_region ?_
    refine awl_runp 3 [4, 5] [] (ob := (True ∧ True ∧ True ∧ True)) (st' := (⟨23, [(4, [], .v (.c (.p .bool false))), (5, [], .v (.c (.p (.int .i64) ret10v)))], []⟩ : St)) (by kernel_rfl) ⟨trivial, trivial, trivial, trivial⟩ ?_
    refine awl_nil ?_
    refine thenQ_n ?_
    refine aw_ret ?_
    refine thenQ_r ?_
    exact retQ_r (σ := Bool × Int) (R := (fun y => [toV1 .bool y.1, toV1 (.int .i64) y.2])) (ob := (True ∧ True ∧ True)) (false, ret10v) (by kernel_rfl) ⟨trivial, trivial, trivial⟩ h
  · have h := h.2 hb
    refine aw_skip ?_
    refine thenQ_n ?_
    refine aw_seq ?_
    refine aw_region ?_
    refine awl_runp 3 [0, 1, 16] [16] (ob := (True ∧ True ∧ True ∧ True)) (st' := (⟨23, [(0, [], .v (.c (.p (.sl (.int .u8)) u))), (1, [], .v (.c (.p (.sl (.int .u8)) v))), (16, [], .v (.c (.own 16)))], [(16, [], .arr 22 (.sl (.int .u8)) [u, v])]⟩ : St)) (by kernel_rfl) ⟨trivial, trivial, trivial, trivial⟩ ?_
    refine awl_callOk (e := 5) (t := (.int .u8)) (l := [toV1 (.sl (.sl (.int .u8))) [u, v]]) (cl := []) true [.d (.sl (.sl (.int .u8)))] [0, 1, 17] [17] (fun (ret17v : (List Int)) => VC44 [v, u] (fun (ret21v : (List Int)) => VC40 ret17v ret21v (fun (ret22v : Bool) => K (ret22v, (0 : Int))))) (fun ret17v => (⟨23, [(0, [], .v (.c (.p (.sl (.int .u8)) u))), (1, [], .v (.c (.p (.sl (.int .u8)) v))), (17, [], .v (.c (.own 17)))], [(17, [], .arr 5 (.int .u8) ret17v)]⟩ : St)) rfl rfl (by kernel_rfl) rfl (by kernel_rfl) Try.call44 (by kernel_rfl) (fun _ => rfl) (fun ret17v => by kernel_rfl) (link44 [u, v] _ h) (fun ret17v h => ?_)
    have h : VC44 [v, u] (fun (ret21v : (List Int)) => VC40 ret17v ret21v (fun (ret22v : Bool) => K (ret22v, (0 : Int)))) := h
    refine awl_runp 3 [17, 20] [17, 20] (ob := (True ∧ True ∧ True ∧ True)) (st' := (⟨23, [(17, [], .v (.c (.own 17))), (20, [], .v (.c (.own 20)))], [(17, [], .arr 5 (.int .u8) ret17v), (20, [], .arr 22 (.sl (.int .u8)) [v, u])]⟩ : St)) (by kernel_rfl) ⟨trivial, trivial, trivial, trivial⟩ ?_
    refine awl_callOk (e := 5) (t := (.int .u8)) (l := [toV1 (.sl (.sl (.int .u8))) [v, u]]) (cl := []) true [.d (.sl (.sl (.int .u8)))] [17, 21] [17, 21] (fun (ret21v : (List Int)) => VC40 ret17v ret21v (fun (ret22v : Bool) => K (ret22v, (0 : Int)))) (fun ret21v => (⟨23, [(17, [], .v (.c (.own 17))), (21, [], .v (.c (.own 21)))], [(17, [], .arr 5 (.int .u8) ret17v), (21, [], .arr 5 (.int .u8) ret21v)]⟩ : St)) rfl rfl (by kernel_rfl) rfl (by kernel_rfl) Try.call44 (by kernel_rfl) (fun _ => rfl) (fun ret21v => by kernel_rfl) (link44 [v, u] _ h) (fun ret21v h => ?_)
    have h : VC40 ret17v ret21v (fun (ret22v : Bool) => K (ret22v, (0 : Int))) := h
    refine awl_callk (p := []) (l := [toV1 (.sl (.int .u8)) ret17v, toV1 (.sl (.int .u8)) ret21v]) (cl := []) true [.d (.sl (.int .u8)), .d (.sl (.int .u8))] [22] [] (fun (ret22v : Bool) => K (ret22v, (0 : Int))) (fun ret22v => [toV1 .bool ret22v]) (fun ret22v => (⟨23, [(22, [], .v (.c (.p .bool ret22v)))], []⟩ : St)) (by kernel_rfl) rfl (by kernel_rfl) rfl (by kernel_rfl) Try.call40 (by kernel_rfl) (fun ret22v => by kernel_rfl) (fun _ _ => rfl) (fun hg => link40 ret17v ret21v _ h) (fun hg => noF hg) (fun ret22v h => ?_)
    have h : K (ret22v, (0 : Int)) := h
    refine awl_runp 2 [4, 5] [] (ob := (True ∧ True ∧ True)) (st' := (⟨23, [(4, [], .v (.c (.p .bool ret22v))), (5, [], .v (.c (.p (.int .i64) (0 : Int))))], []⟩ : St)) (by kernel_rfl) ⟨trivial, trivial, trivial⟩ ?_
    refine awl_nil ?_
    refine thenQ_n ?_
    refine aw_ret ?_
    exact retQ_r (σ := Bool × Int) (R := (fun y => [toV1 .bool y.1, toV1 (.int .i64) y.2])) (ob := (True ∧ True ∧ True)) (ret22v, (0 : Int)) (by kernel_rfl) ⟨trivial, trivial, trivial⟩ h

-- coppicer/power.period
def VC39 (w : (List Int)) (p : Int) (K : Bool → Prop) : Prop :=
  ((((decide ((1 : Int) ≤ p)) && (decide (p ≤ (w.length : Int)))) = true → (0 ≤ p ∧ p ≤ (w.length : Int))) ∧ (((decide ((1 : Int) ≤ p)) && (decide (p ≤ (w.length : Int)))) = true → InR ((w.length : Int) - p)) ∧ (((decide ((1 : Int) ≤ p)) && (decide (p ≤ (w.length : Int)))) = true → (0 ≤ ((w.length : Int) - p) ∧ ((w.length : Int) - p) ≤ (w.length : Int))) ∧ gcall (α := Bool) ((decide ((1 : Int) ≤ p)) && (decide (p ≤ (w.length : Int)))) (VC40 (w.drop (p).toNat) (w.take (((w.length : Int) - p)).toNat)) false (fun (ret23v : Bool) => K (((decide ((1 : Int) ≤ p)) && (decide (p ≤ (w.length : Int)))) && ret23v)))

set_option maxHeartbeats 4000000 in
theorem link39 (w : (List Int)) (p : Int) (K : Bool → Prop) (h : VC39 w p K) : ACalls Try.prog 39 [toV1 (.sl (.int .u8)) w, toV1 (.int .i64) p] (fun res => ∃ y, res = (fun y => [toV1 .bool y]) y ∧ K y) := by
  refine acalls_of_aw [.bool] [.t 4] Try.func39 rfl rfl rfl ?_
  unfold VC39 at h
  refine aw_seq ?_
  refine aw_region ?_
  refine awl_runp 1 [0, 1] [] (ob := (True ∧ True)) (st' := (⟨25, [(0, [], .v (.c (.p (.sl (.int .u8)) w))), (1, [], .v (.c (.p (.int .i64) p)))], []⟩ : St)) (by kernel_rfl) ⟨trivial, trivial⟩ ?_
  refine awl_nil ?_
  refine thenQ_n ?_
  refine aw_seq ?_
  refine awd_begin [] (by kernel_rfl) ?_
  obtain ⟨o1, o2, o3, h⟩ := h
  refine awd_runp (by kernel_rfl) [0, 1, 2, 3, 4, 5, 6, 7, 8, 9, 10, 11, 12, 13, 14, 15, 16, 17] [13, 16, 22] [] (ob := (True ∧ True ∧ True ∧ ((decide ((1 : Int) ≤ p)) = true → True) ∧ ((decide ((1 : Int) ≤ p)) = true → True) ∧ ((decide ((1 : Int) ≤ p)) = true → True) ∧ ((decide ((1 : Int) ≤ p)) = true → True) ∧ True ∧ True ∧ (((decide ((1 : Int) ≤ p)) && (decide (p ≤ (w.length : Int)))) = true → True) ∧ (((decide ((1 : Int) ≤ p)) && (decide (p ≤ (w.length : Int)))) = true → True) ∧ (((decide ((1 : Int) ≤ p)) && (decide (p ≤ (w.length : Int)))) = true → (0 ≤ p ∧ p ≤ (w.length : Int))) ∧ (((decide ((1 : Int) ≤ p)) && (decide (p ≤ (w.length : Int)))) = true → True) ∧ (((decide ((1 : Int) ≤ p)) && (decide (p ≤ (w.length : Int)))) = true → True) ∧ (((decide ((1 : Int) ≤ p)) && (decide (p ≤ (w.length : Int)))) = true → True) ∧ (((decide ((1 : Int) ≤ p)) && (decide (p ≤ (w.length : Int)))) = true → True) ∧ (((decide ((1 : Int) ≤ p)) && (decide (p ≤ (w.length : Int)))) = true → InR ((w.length : Int) - p)) ∧ (((decide ((1 : Int) ≤ p)) && (decide (p ≤ (w.length : Int)))) = true → (0 ≤ ((w.length : Int) - p) ∧ ((w.length : Int) - p) ≤ (w.length : Int))) ∧ True)) (done' := [17, 16, 15, 14, 13, 12, 11, 10, 9, 8, 7, 6, 5, 4, 3, 2, 1, 0]) (st' := (⟨25, [(13, [], .v (.c (.p .bool ((decide ((1 : Int) ≤ p)) && (decide (p ≤ (w.length : Int))))))), (16, [(13, true)], .v (.c (.p (.sl (.int .u8)) (w.drop (p).toNat)))), (22, [(13, true)], .v (.c (.p (.sl (.int .u8)) (w.take (((w.length : Int) - p)).toNat))))], []⟩ : St)) (by kernel_rfl) ⟨trivial, trivial, trivial, (fun _ => trivial), (fun _ => trivial), (fun _ => trivial), (fun _ => trivial), trivial, trivial, (fun _ => trivial), (fun _ => trivial), o1, (fun _ => trivial), (fun _ => trivial), (fun _ => trivial), (fun _ => trivial), o2, o3, trivial⟩ ?_
  refine awd_one (i := 18) (by kernel_rfl) ?_
  refine adop_callk (p := [(13, true)]) (l := [toV1 (.sl (.int .u8)) (w.drop (p).toNat), toV1 (.sl (.int .u8)) (w.take (((w.length : Int) - p)).toNat)]) (cl := []) false [.d (.sl (.int .u8)), .d (.sl (.int .u8))] [13, 23] [] (fun (ret23v : Bool) => K (((decide ((1 : Int) ≤ p)) && (decide (p ≤ (w.length : Int)))) && ret23v)) (fun ret23v => [toV1 .bool ret23v]) (fun ret23v => (⟨25, [(13, [], .v (.c (.p .bool ((decide ((1 : Int) ≤ p)) && (decide (p ≤ (w.length : Int))))))), (23, [(13, true)], .v (.c (.p .bool ret23v)))], []⟩ : St)) rfl (by kernel_rfl) rfl (by kernel_rfl) rfl (by kernel_rfl) Try.call40 (by kernel_rfl) (fun ret23v => by kernel_rfl) (fun e => by cases e) (fun hg => link40 (w.drop (p).toNat) (w.take (((w.length : Int) - p)).toNat) _ (by have := gcall_T h (show ((decide ((1 : Int) ≤ p)) && (decide (p ≤ (w.length : Int)))) = true from hg); exact this)) (fun hg => ⟨false, by have := gcall_F h (show ((decide ((1 : Int) ≤ p)) && (decide (p ≤ (w.length : Int)))) = false from hg); exact this⟩) (fun ret23v h => ?_)
  have h : K (((decide ((1 : Int) ≤ p)) && (decide (p ≤ (w.length : Int)))) && ret23v) := h
  refine awd_runp (by kernel_rfl) [19, 20] [4] [] (ob := (True ∧ True ∧ True)) (done' := [20, 19, 18, 17, 16, 15, 14, 13, 12, 11, 10, 9, 8, 7, 6, 5, 4, 3, 2, 1, 0]) (st' := (⟨25, [(4, [], .v (.c (.p .bool (((decide ((1 : Int) ≤ p)) && (decide (p ≤ (w.length : Int)))) && ret23v))))], []⟩ : St)) (by kernel_rfl) ⟨trivial, trivial, trivial⟩ ?_
  refine awd_done (by kernel_rfl) ?_
  refine thenQ_n ?_
  refine aw_ret ?_
  exact retQ_r (σ := Bool) (R := (fun y => [toV1 .bool y])) (ob := (True ∧ True)) (((decide ((1 : Int) ≤ p)) && (decide (p ≤ (w.length : Int)))) && ret23v) (by kernel_rfl) ⟨trivial, trivial⟩ h

-- coppicer/power.Root
def VC24_k1 (K : (List Int) × Int × Int → Prop) : Prop :=
  K (([] : (List Int)), (0 : Int), (0 : Int))

def VC24_l1 (w : (List Int)) (K : (List Int) × Int × Int → Prop) (p : Int) (X1 : Int → Prop) : Prop :=
  (((decide (p ≤ (w.length : Int))) = true → ((0 ≤ (w.length : Int) ∧ 0 < p) ∧ gcall (α := Bool) (decide (((w.length : Int) % p) = (0 : Int))) (VC39 w p) false (fun (ret27v : Bool) => ((((decide (((w.length : Int) % p) = (0 : Int))) && ret27v) = true → ((0 ≤ p ∧ p ≤ (w.length : Int)) ∧ (0 ≤ (w.length : Int) ∧ 0 < p) ∧ VC41 (w.take (p).toNat) (fun (ret32v : (List Int)) => K (ret32v, ((w.length : Int) / p), (0 : Int))))) ∧ (((decide (((w.length : Int) % p) = (0 : Int))) && ret27v) = false → (InR (p + (1 : Int)) ∧ X1 (p + (1 : Int)))))))) ∧ ((decide (p ≤ (w.length : Int))) = false → VC24_k1 K))

def VC24 (w : (List Int)) (K : (List Int) × Int × Int → Prop) : Prop :=
  VC38 [w] (fun (ret9v : Int) => (((!decide (ret9v = (0 : Int))) = true → K (([] : (List Int)), (0 : Int), ret9v)) ∧ ((!decide (ret9v = (0 : Int))) = false → Loop (σ := Int) (fun s X => VC24_l1 w K s X) (1 : Int))))

set_option maxHeartbeats 4000000 in
theorem link24 (w : (List Int)) (K : (List Int) × Int × Int → Prop) (h : VC24 w K) : ACalls Try.prog 24 [toV1 (.sl (.int .u8)) w] (fun res => ∃ y, res = (fun y => [toV1 (.sl (.int .u8)) y.1, toV1 (.int .i64) y.2.1, toV1 (.int .i64) y.2.2]) y ∧ K y) := by
  refine acalls_of_aw [(.sl (.int .u8)), (.int .i64), (.int .i64)] [.t 2, .t 3, .t 4] Try.func24 rfl rfl rfl ?_
  unfold VC24 at h
  refine aw_seq ?_
  refine aw_region ?_
  refine awl_runp 3 [0] [] (ob := (True ∧ True ∧ True ∧ True)) (st' := (⟨37, [(0, [], .v (.c (.p (.sl (.int .u8)) w)))], []⟩ : St)) (by kernel_rfl) ⟨trivial, trivial, trivial, trivial⟩ ?_
  refine awl_nil ?_
  refine thenQ_n ?_
  refine aw_seq ?_
  refine aw_seq ?_
  refine aw_region ?_
  refine awl_runp 2 [0, 8] [8] (ob := (True ∧ True ∧ True)) (st' := (⟨37, [(0, [], .v (.c (.p (.sl (.int .u8)) w))), (8, [], .v (.c (.own 8)))], [(8, [], .arr 22 (.sl (.int .u8)) [w])]⟩ : St)) (by kernel_rfl) ⟨trivial, trivial, trivial⟩ ?_
  refine awl_callk (p := []) (l := [toV1 (.sl (.sl (.int .u8))) [w]]) (cl := []) true [.d (.sl (.sl (.int .u8)))] [0, 9] [] (fun (ret9v : Int) => (((!decide (ret9v = (0 : Int))) = true → K (([] : (List Int)), (0 : Int), ret9v)) ∧ ((!decide (ret9v = (0 : Int))) = false → Loop (σ := Int) (fun s X => VC24_l1 w K s X) (1 : Int)))) (fun ret9v => [toV1 (.int .i64) ret9v]) (fun ret9v => (⟨37, [(0, [], .v (.c (.p (.sl (.int .u8)) w))), (9, [], .v (.c (.p (.int .i64) ret9v)))], []⟩ : St)) (by kernel_rfl) rfl (by kernel_rfl) rfl (by kernel_rfl) Try.call38 (by kernel_rfl) (fun ret9v => by kernel_rfl) (fun _ _ => rfl) (fun hg => link38 [w] _ h) (fun hg => noF hg) (fun ret9v h => ?_)
  have h : (((!decide (ret9v = (0 : Int))) = true → K (([] : (List Int)), (0 : Int), ret9v)) ∧ ((!decide (ret9v = (0 : Int))) = false → Loop (σ := Int) (fun s X => VC24_l1 w K s X) (1 : Int))) := h
  refine awl_runp 1 [0, 5] [] (ob := (True ∧ True)) (st' := (⟨37, [(0, [], .v (.c (.p (.sl (.int .u8)) w))), (5, [], .v (.c (.p (.int .i64) ret9v)))], []⟩ : St)) (by kernel_rfl) ⟨trivial, trivial⟩ ?_
  refine awl_nil ?_
  refine thenQ_n ?_
  refine aw_seq ?_
  refine aw_region ?_
  refine awl_runp 2 [0, 5, 11] [] (ob := (True ∧ True ∧ True)) (st' := (⟨37, [(0, [], .v (.c (.p (.sl (.int .u8)) w))), (5, [], .v (.c (.p (.int .i64) ret9v))), (11, [], .v (.c (.p .bool (!decide (ret9v = (0 : Int))))))], []⟩ : St)) (by kernel_rfl) ⟨trivial, trivial, trivial⟩ ?_
  refine awl_nil ?_
  refine thenQ_n ?_
  refine aw_cond (b := (!decide (ret9v = (0 : Int)))) (by kernel_rfl) (fun hb => ?_) (fun hb => ?_)
  · have h := h.1 hb
    refine aw_seq ?_
    refine aw_region ?_
    refine awl_runp 4 [2, 3, 4] [] (ob := (True ∧ True ∧ True ∧ True ∧ True)) (st' := (⟨37, [(2, [], .v (.c (.nils))), (3, [], .v (.c (.p (.int .i64) (0 : Int)))), (4, [], .v (.c (.p (.int .i64) ret9v)))], []⟩ : St)) (by kernel_rfl) ⟨trivial, trivial, trivial, trivial, trivial⟩ ?_
    refine awl_nil ?_
    refine thenQ_n ?_
    refine aw_ret ?_
    refine thenQ_r ?_
    exact retQ_r (σ := (List Int) × Int × Int) (R := (fun y => [toV1 (.sl (.int .u8)) y.1, toV1 (.int .i64) y.2.1, toV1 (.int .i64) y.2.2])) (ob := (True ∧ True ∧ True ∧ True)) (([] : (List Int)), (0 : Int), ret9v) (by kernel_rfl) ⟨trivial, trivial, trivial, trivial⟩ h
  · have h := h.2 hb
    refine aw_skip ?_
    refine thenQ_n ?_
    refine aw_seq ?_
    refine aw_seq ?_
    refine aw_region ?_
    refine awl_runp 1 [0, 6] [] (ob := (True ∧ True)) (st' := (⟨37, [(0, [], .v (.c (.p (.sl (.int .u8)) w))), (6, [], .v (.c (.p (.int .i64) (1 : Int))))], []⟩ : St)) (by kernel_rfl) ⟨trivial, trivial⟩ ?_
    refine awl_nil ?_
    refine thenQ_n ?_
    refine withJoin (σ := Unit) (fun s => (⟨37, [], []⟩ : St)) (fun s => VC24_k1 K) (fun s h => ?_) (fun rest1 => ?_)
    · have h : VC24_k1 K := h
      unfold VC24_k1 at h
      refine thenQ_n ?_
      refine aw_seq ?_
      refine aw_region ?_
      refine awl_runp 3 [2, 3, 4] [] (ob := (True ∧ True ∧ True ∧ True)) (st' := (⟨37, [(2, [], .v (.c (.nils))), (3, [], .v (.c (.p (.int .i64) (0 : Int)))), (4, [], .v (.c (.p (.int .i64) (0 : Int))))], []⟩ : St)) (by kernel_rfl) ⟨trivial, trivial, trivial, trivial⟩ ?_
      refine awl_nil ?_
      refine thenQ_n ?_
      refine aw_ret ?_
      exact retQ_r (σ := (List Int) × Int × Int) (R := (fun y => [toV1 (.sl (.int .u8)) y.1, toV1 (.int .i64) y.2.1, toV1 (.int .i64) y.2.2])) (ob := (True ∧ True ∧ True ∧ True)) (([] : (List Int)), (0 : Int), (0 : Int)) (by kernel_rfl) ⟨trivial, trivial, trivial, trivial⟩ h
    · refine aw_block ?_
      refine aw_loop (σ := Int) (fun s => (⟨37, [(0, [], .v (.c (.p (.sl (.int .u8)) w))), (6, [], .v (.c (.p (.int .i64) s)))], []⟩ : St)) (fun s X => VC24_l1 w K s X) (s0 := (1 : Int)) (fun p X1 h => ?_) h
      have h : VC24_l1 w K p X1 := h
      unfold VC24_l1 at h
      refine aw_seq ?_
      refine aw_seq ?_
      refine aw_region ?_
      refine awl_runp 4 [0, 6, 16] [] (ob := (True ∧ True ∧ True ∧ True ∧ True)) (st' := (⟨37, [(0, [], .v (.c (.p (.sl (.int .u8)) w))), (6, [], .v (.c (.p (.int .i64) p))), (16, [], .v (.c (.p .bool (decide (p ≤ (w.length : Int))))))], []⟩ : St)) (by kernel_rfl) ⟨trivial, trivial, trivial, trivial, trivial⟩ ?_
      refine awl_nil ?_
      refine thenQ_n ?_
      refine aw_cond (b := (decide (p ≤ (w.length : Int)))) (by kernel_rfl) (fun hb => ?_) (fun hb => ?_)
      · have h := h.1 hb
        refine aw_skip ?_
        refine thenQ_n ?_
        refine aw_seq ?_
        refine aw_block ?_
        refine aw_seq ?_
        refine aw_region ?_
        obtain ⟨o1, h⟩ := h
        refine awl_runp 8 [0, 6, 24, 25, 26] [] (ob := (True ∧ True ∧ True ∧ (0 ≤ (w.length : Int) ∧ 0 < p) ∧ True ∧ True ∧ ((decide (((w.length : Int) % p) = (0 : Int))) = true → True) ∧ ((decide (((w.length : Int) % p) = (0 : Int))) = true → True) ∧ True)) (st' := (⟨37, [(0, [], .v (.c (.p (.sl (.int .u8)) w))), (6, [], .v (.c (.p (.int .i64) p))), (24, [], .v (.c (.p .bool (decide (((w.length : Int) % p) = (0 : Int)))))), (25, [(24, true)], .v (.c (.p (.sl (.int .u8)) w))), (26, [(24, true)], .v (.c (.p (.int .i64) p)))], []⟩ : St)) (by kernel_rfl) ⟨trivial, trivial, trivial, o1, trivial, trivial, (fun _ => trivial), (fun _ => trivial), trivial⟩ ?_
        refine awl_callk (p := [(24, true)]) (l := [toV1 (.sl (.int .u8)) w, toV1 (.int .i64) p]) (cl := []) false [.d (.sl (.int .u8)), .d (.int .i64)] [0, 6, 24, 27] [] (fun (ret27v : Bool) => ((((decide (((w.length : Int) % p) = (0 : Int))) && ret27v) = true → ((0 ≤ p ∧ p ≤ (w.length : Int)) ∧ (0 ≤ (w.length : Int) ∧ 0 < p) ∧ VC41 (w.take (p).toNat) (fun (ret32v : (List Int)) => K (ret32v, ((w.length : Int) / p), (0 : Int))))) ∧ (((decide (((w.length : Int) % p) = (0 : Int))) && ret27v) = false → (InR (p + (1 : Int)) ∧ X1 (p + (1 : Int)))))) (fun ret27v => [toV1 .bool ret27v]) (fun ret27v => (⟨37, [(0, [], .v (.c (.p (.sl (.int .u8)) w))), (6, [], .v (.c (.p (.int .i64) p))), (24, [], .v (.c (.p .bool (decide (((w.length : Int) % p) = (0 : Int)))))), (27, [(24, true)], .v (.c (.p .bool ret27v)))], []⟩ : St)) (by kernel_rfl) rfl (by kernel_rfl) rfl (by kernel_rfl) Try.call39 (by kernel_rfl) (fun ret27v => by kernel_rfl) (fun e => by cases e) (fun hg => link39 w p _ (by have := gcall_T h (show (decide (((w.length : Int) % p) = (0 : Int))) = true from hg); exact this)) (fun hg => ⟨false, by have := gcall_F h (show (decide (((w.length : Int) % p) = (0 : Int))) = false from hg); exact this⟩) (fun ret27v h => ?_)
        have h : ((((decide (((w.length : Int) % p) = (0 : Int))) && ret27v) = true → ((0 ≤ p ∧ p ≤ (w.length : Int)) ∧ (0 ≤ (w.length : Int) ∧ 0 < p) ∧ VC41 (w.take (p).toNat) (fun (ret32v : (List Int)) => K (ret32v, ((w.length : Int) / p), (0 : Int))))) ∧ (((decide (((w.length : Int) % p) = (0 : Int))) && ret27v) = false → (InR (p + (1 : Int)) ∧ X1 (p + (1 : Int))))) := h
        refine awl_runp 1 [0, 6, 28] [] (ob := (True ∧ True)) (st' := (⟨37, [(0, [], .v (.c (.p (.sl (.int .u8)) w))), (6, [], .v (.c (.p (.int .i64) p))), (28, [], .v (.c (.p .bool ((decide (((w.length : Int) % p) = (0 : Int))) && ret27v))))], []⟩ : St)) (by kernel_rfl) ⟨trivial, trivial⟩ ?_
        refine awl_nil ?_
        refine thenQ_n ?_
        refine aw_cond (b := ((decide (((w.length : Int) % p) = (0 : Int))) && ret27v)) (by kernel_rfl) (fun hb => ?_) (fun hb => ?_)
        · have h := h.1 hb
          refine aw_seq ?_
          refine awd_begin [] (by kernel_rfl) ?_
          obtain ⟨o1, o2, h⟩ := h
          refine awd_runp (by kernel_rfl) [0, 1, 2, 4, 5, 6, 7] [31, 36] [] (ob := (True ∧ True ∧ (0 ≤ p ∧ p ≤ (w.length : Int)) ∧ True ∧ True ∧ True ∧ (0 ≤ (w.length : Int) ∧ 0 < p) ∧ True)) (done' := [7, 6, 5, 4, 2, 1, 0]) (st' := (⟨37, [(31, [], .v (.c (.p (.sl (.int .u8)) (w.take (p).toNat)))), (36, [], .v (.c (.p (.int .i64) ((w.length : Int) / p))))], []⟩ : St)) (by kernel_rfl) ⟨trivial, trivial, o1, trivial, trivial, trivial, o2, trivial⟩ ?_
          refine awd_one (i := 3) (by kernel_rfl) ?_
          refine adop_callOk (e := 5) (t := (.int .u8)) (l := [toV1 (.sl (.int .u8)) (w.take (p).toNat)]) (cl := []) false [.d (.sl (.int .u8))] [32, 36] [32] (fun (ret32v : (List Int)) => K (ret32v, ((w.length : Int) / p), (0 : Int))) (fun ret32v => (⟨37, [(32, [], .v (.c (.own 32))), (36, [], .v (.c (.p (.int .i64) ((w.length : Int) / p))))], [(32, [], .arr 5 (.int .u8) ret32v)]⟩ : St)) rfl rfl rfl (by kernel_rfl) rfl (by kernel_rfl) Try.call41 (by kernel_rfl) (fun e => by cases e) (fun ret32v => by kernel_rfl) (link41 (w.take (p).toNat) _ h) (fun ret32v h => ?_)
          have h : K (ret32v, ((w.length : Int) / p), (0 : Int)) := h
          refine awd_runp (by kernel_rfl) [8, 9, 10] [2, 3, 4] [32] (ob := (True ∧ True ∧ True ∧ True)) (done' := [10, 9, 8, 3, 7, 6, 5, 4, 2, 1, 0]) (st' := (⟨37, [(2, [], .v (.c (.own 32))), (3, [], .v (.c (.p (.int .i64) ((w.length : Int) / p)))), (4, [], .v (.c (.p (.int .i64) (0 : Int))))], [(32, [], .arr 5 (.int .u8) ret32v)]⟩ : St)) (by kernel_rfl) ⟨trivial, trivial, trivial, trivial⟩ ?_
          refine awd_done (by kernel_rfl) ?_
          refine thenQ_n ?_
          refine aw_conv [.freeze 32] (st' := (⟨37, [(2, [], .v (.c (.p (.sl (.int .u8)) ret32v))), (3, [], .v (.c (.p (.int .i64) ((w.length : Int) / p)))), (4, [], .v (.c (.p (.int .i64) (0 : Int))))], []⟩ : St)) (by kernel_rfl) ?_
          refine aw_ret ?_
          refine blockQ_r ?_
          refine thenQ_r ?_
          refine thenQ_r ?_
          refine blockQ_r ?_
          refine thenQ_r ?_
          exact retQ_r (σ := (List Int) × Int × Int) (R := (fun y => [toV1 (.sl (.int .u8)) y.1, toV1 (.int .i64) y.2.1, toV1 (.int .i64) y.2.2])) (ob := (True ∧ True ∧ True ∧ True)) (ret32v, ((w.length : Int) / p), (0 : Int)) (by kernel_rfl) ⟨trivial, trivial, trivial, trivial⟩ h
        · have h := h.2 hb
          refine aw_skip ?_
          refine blockQ_n ?_
          refine thenQ_n ?_
          refine aw_region ?_
          obtain ⟨o1, h⟩ := h
          refine awl_runp 3 [0, 6] [] (ob := (True ∧ InR (p + (1 : Int)) ∧ True ∧ True)) (st' := (⟨37, [(0, [], .v (.c (.p (.sl (.int .u8)) w))), (6, [], .v (.c (.p (.int .i64) (p + (1 : Int)))))], []⟩ : St)) (by kernel_rfl) ⟨trivial, o1, trivial, trivial⟩ ?_
          refine awl_nil ?_
          exact thenQ_n ⟨(p + (1 : Int)), rfl, h⟩
      · have h := h.2 hb
        refine aw_conv [.prune [] []] (st' := (⟨37, [], []⟩ : St)) (by kernel_rfl) ?_
        refine aw_exit ?_
        refine thenQ_x ?_
        refine thenQ_x ?_
        refine blockQ_hit ?_
        exact rest1 () h

-- coppicer/coppicerkeep.PowerCommutes
def VC10 (u : (List Int)) (v : (List Int)) (K : Bool → Prop) : Prop :=
  VC31 u v (fun (ret16v : Bool × Int) => VC16 [u, v] (fun (ret22v : Bool) => ((ret22v = true → K (!decide (ret16v.2 = (0 : Int)))) ∧ (ret22v = false → VC24 u (fun (ret27v : (List Int) × Int × Int) => VC24 v (fun (ret33v : (List Int) × Int × Int) => (((((!decide (ret16v.2 = (0 : Int))) || (!decide (ret27v.2.2 = (0 : Int)))) || (!decide (ret33v.2.2 = (0 : Int)))) = true → K false) ∧ ((((!decide (ret16v.2 = (0 : Int))) || (!decide (ret27v.2.2 = (0 : Int)))) || (!decide (ret33v.2.2 = (0 : Int)))) = false → gcall (α := Bool) (!((decide ((u.length : Int) = (0 : Int))) || (decide ((v.length : Int) = (0 : Int))))) (VC21 ret27v.1 ret33v.1) false (fun (ret59v : Bool) => K (ret16v.1 == (((decide ((u.length : Int) = (0 : Int))) || (decide ((v.length : Int) = (0 : Int)))) || ret59v)))))))))))

set_option maxHeartbeats 4000000 in
theorem link10 (u : (List Int)) (v : (List Int)) (K : Bool → Prop) (h : VC10 u v K) : ACalls Try.prog 10 [toV1 (.sl (.int .u8)) u, toV1 (.sl (.int .u8)) v] (fun res => ∃ y, res = (fun y => [toV1 .bool y]) y ∧ K y) := by
  refine acalls_of_aw [.bool] [.t 4] Try.func10 rfl rfl rfl ?_
  unfold VC10 at h
  refine aw_seq ?_
  refine aw_region ?_
  refine awl_runp 1 [0, 1] [] (ob := (True ∧ True)) (st' := (⟨62, [(0, [], .v (.c (.p (.sl (.int .u8)) u))), (1, [], .v (.c (.p (.sl (.int .u8)) v)))], []⟩ : St)) (by kernel_rfl) ⟨trivial, trivial⟩ ?_
  refine awl_nil ?_
  refine thenQ_n ?_
  refine aw_seq ?_
  refine aw_region ?_
  refine awl_runp 2 [0, 1, 14, 15] [] (ob := (True ∧ True ∧ True)) (st' := (⟨62, [(0, [], .v (.c (.p (.sl (.int .u8)) u))), (1, [], .v (.c (.p (.sl (.int .u8)) v))), (14, [], .v (.c (.p (.sl (.int .u8)) u))), (15, [], .v (.c (.p (.sl (.int .u8)) v)))], []⟩ : St)) (by kernel_rfl) ⟨trivial, trivial, trivial⟩ ?_
  refine awl_callk (p := []) (l := [toV1 (.sl (.int .u8)) u, toV1 (.sl (.int .u8)) v]) (cl := []) false [.d (.sl (.int .u8)), .d (.sl (.int .u8))] [0, 1, 16] [] (fun (ret16v : Bool × Int) => VC16 [u, v] (fun (ret22v : Bool) => ((ret22v = true → K (!decide (ret16v.2 = (0 : Int)))) ∧ (ret22v = false → VC24 u (fun (ret27v : (List Int) × Int × Int) => VC24 v (fun (ret33v : (List Int) × Int × Int) => (((((!decide (ret16v.2 = (0 : Int))) || (!decide (ret27v.2.2 = (0 : Int)))) || (!decide (ret33v.2.2 = (0 : Int)))) = true → K false) ∧ ((((!decide (ret16v.2 = (0 : Int))) || (!decide (ret27v.2.2 = (0 : Int)))) || (!decide (ret33v.2.2 = (0 : Int)))) = false → gcall (α := Bool) (!((decide ((u.length : Int) = (0 : Int))) || (decide ((v.length : Int) = (0 : Int))))) (VC21 ret27v.1 ret33v.1) false (fun (ret59v : Bool) => K (ret16v.1 == (((decide ((u.length : Int) = (0 : Int))) || (decide ((v.length : Int) = (0 : Int)))) || ret59v))))))))))) (fun ret16v => [toV1 .bool ret16v.1, toV1 (.int .i64) ret16v.2]) (fun ret16v => (⟨62, [(0, [], .v (.c (.p (.sl (.int .u8)) u))), (1, [], .v (.c (.p (.sl (.int .u8)) v))), (16, [], .tup [.c (.p .bool ret16v.1), .c (.p (.int .i64) ret16v.2)])], []⟩ : St)) (by kernel_rfl) rfl (by kernel_rfl) rfl (by kernel_rfl) Try.call31 (by kernel_rfl) (fun ret16v => by kernel_rfl) (fun e => by cases e) (fun hg => link31 u v _ h) (fun hg => noF hg) (fun ret16v h => ?_)
  have h : VC16 [u, v] (fun (ret22v : Bool) => ((ret22v = true → K (!decide (ret16v.2 = (0 : Int)))) ∧ (ret22v = false → VC24 u (fun (ret27v : (List Int) × Int × Int) => VC24 v (fun (ret33v : (List Int) × Int × Int) => (((((!decide (ret16v.2 = (0 : Int))) || (!decide (ret27v.2.2 = (0 : Int)))) || (!decide (ret33v.2.2 = (0 : Int)))) = true → K false) ∧ ((((!decide (ret16v.2 = (0 : Int))) || (!decide (ret27v.2.2 = (0 : Int)))) || (!decide (ret33v.2.2 = (0 : Int)))) = false → gcall (α := Bool) (!((decide ((u.length : Int) = (0 : Int))) || (decide ((v.length : Int) = (0 : Int))))) (VC21 ret27v.1 ret33v.1) false (fun (ret59v : Bool) => K (ret16v.1 == (((decide ((u.length : Int) = (0 : Int))) || (decide ((v.length : Int) = (0 : Int)))) || ret59v)))))))))) := h
  refine awl_runp 5 [0, 1, 5, 6] [] (ob := (True ∧ True ∧ True ∧ True ∧ True ∧ True)) (st' := (⟨62, [(0, [], .v (.c (.p (.sl (.int .u8)) u))), (1, [], .v (.c (.p (.sl (.int .u8)) v))), (5, [], .v (.c (.p .bool ret16v.1))), (6, [], .v (.c (.p (.int .i64) ret16v.2)))], []⟩ : St)) (by kernel_rfl) ⟨trivial, trivial, trivial, trivial, trivial, trivial⟩ ?_
  refine awl_nil ?_
  refine thenQ_n ?_
  refine aw_seq ?_
  refine aw_seq ?_
  refine aw_region ?_
  refine awl_runp 3 [0, 1, 5, 6, 21] [21] (ob := (True ∧ True ∧ True ∧ True)) (st' := (⟨62, [(0, [], .v (.c (.p (.sl (.int .u8)) u))), (1, [], .v (.c (.p (.sl (.int .u8)) v))), (5, [], .v (.c (.p .bool ret16v.1))), (6, [], .v (.c (.p (.int .i64) ret16v.2))), (21, [], .v (.c (.own 21)))], [(21, [], .arr 22 (.sl (.int .u8)) [u, v])]⟩ : St)) (by kernel_rfl) ⟨trivial, trivial, trivial, trivial⟩ ?_
  refine awl_callk (p := []) (l := [toV1 (.sl (.sl (.int .u8))) [u, v]]) (cl := []) true [.d (.sl (.sl (.int .u8)))] [0, 1, 5, 6, 22] [] (fun (ret22v : Bool) => ((ret22v = true → K (!decide (ret16v.2 = (0 : Int)))) ∧ (ret22v = false → VC24 u (fun (ret27v : (List Int) × Int × Int) => VC24 v (fun (ret33v : (List Int) × Int × Int) => (((((!decide (ret16v.2 = (0 : Int))) || (!decide (ret27v.2.2 = (0 : Int)))) || (!decide (ret33v.2.2 = (0 : Int)))) = true → K false) ∧ ((((!decide (ret16v.2 = (0 : Int))) || (!decide (ret27v.2.2 = (0 : Int)))) || (!decide (ret33v.2.2 = (0 : Int)))) = false → gcall (α := Bool) (!((decide ((u.length : Int) = (0 : Int))) || (decide ((v.length : Int) = (0 : Int))))) (VC21 ret27v.1 ret33v.1) false (fun (ret59v : Bool) => K (ret16v.1 == (((decide ((u.length : Int) = (0 : Int))) || (decide ((v.length : Int) = (0 : Int)))) || ret59v)))))))))) (fun ret22v => [toV1 .bool ret22v]) (fun ret22v => (⟨62, [(0, [], .v (.c (.p (.sl (.int .u8)) u))), (1, [], .v (.c (.p (.sl (.int .u8)) v))), (5, [], .v (.c (.p .bool ret16v.1))), (6, [], .v (.c (.p (.int .i64) ret16v.2))), (22, [], .v (.c (.p .bool ret22v)))], []⟩ : St)) (by kernel_rfl) rfl (by kernel_rfl) rfl (by kernel_rfl) Try.call16 (by kernel_rfl) (fun ret22v => by kernel_rfl) (fun _ _ => rfl) (fun hg => link16 [u, v] _ h) (fun hg => noF hg) (fun ret22v h => ?_)
  have h : ((ret22v = true → K (!decide (ret16v.2 = (0 : Int)))) ∧ (ret22v = false → VC24 u (fun (ret27v : (List Int) × Int × Int) => VC24 v (fun (ret33v : (List Int) × Int × Int) => (((((!decide (ret16v.2 = (0 : Int))) || (!decide (ret27v.2.2 = (0 : Int)))) || (!decide (ret33v.2.2 = (0 : Int)))) = true → K false) ∧ ((((!decide (ret16v.2 = (0 : Int))) || (!decide (ret27v.2.2 = (0 : Int)))) || (!decide (ret33v.2.2 = (0 : Int)))) = false → gcall (α := Bool) (!((decide ((u.length : Int) = (0 : Int))) || (decide ((v.length : Int) = (0 : Int))))) (VC21 ret27v.1 ret33v.1) false (fun (ret59v : Bool) => K (ret16v.1 == (((decide ((u.length : Int) = (0 : Int))) || (decide ((v.length : Int) = (0 : Int)))) || ret59v))))))))) := h
  refine awl_nil ?_
  refine thenQ_n ?_
  refine aw_cond (b := ret22v) (by kernel_rfl) (fun hb => ?_) (fun hb => ?_)
  · have h := h.1 hb
    refine aw_seq ?_
    refine aw_region ?_
    refine awl_runp 3 [4] [] (ob := (True ∧ True ∧ True ∧ True)) (st' := (⟨62, [(4, [], .v (.c (.p .bool (!decide (ret16v.2 = (0 : Int))))))], []⟩ : St)) (by kernel_rfl) ⟨trivial, trivial, trivial, trivial⟩ ?_
    refine awl_nil ?_
    refine thenQ_n ?_
    refine aw_ret ?_
    refine thenQ_r ?_
    exact retQ_r (σ := Bool) (R := (fun y => [toV1 .bool y])) (ob := (True ∧ True)) (!decide (ret16v.2 = (0 : Int))) (by kernel_rfl) ⟨trivial, trivial⟩ h
  · have h := h.2 hb
    refine aw_skip ?_
    refine thenQ_n ?_
    refine aw_seq ?_
    refine aw_region ?_
    refine awl_runp 1 [0, 1, 5, 6, 26] [] (ob := (True ∧ True)) (st' := (⟨62, [(0, [], .v (.c (.p (.sl (.int .u8)) u))), (1, [], .v (.c (.p (.sl (.int .u8)) v))), (5, [], .v (.c (.p .bool ret16v.1))), (6, [], .v (.c (.p (.int .i64) ret16v.2))), (26, [], .v (.c (.p (.sl (.int .u8)) u)))], []⟩ : St)) (by kernel_rfl) ⟨trivial, trivial⟩ ?_
    refine awl_callk (p := []) (l := [toV1 (.sl (.int .u8)) u]) (cl := []) false [.d (.sl (.int .u8))] [0, 1, 5, 6, 27] [] (fun (ret27v : (List Int) × Int × Int) => VC24 v (fun (ret33v : (List Int) × Int × Int) => (((((!decide (ret16v.2 = (0 : Int))) || (!decide (ret27v.2.2 = (0 : Int)))) || (!decide (ret33v.2.2 = (0 : Int)))) = true → K false) ∧ ((((!decide (ret16v.2 = (0 : Int))) || (!decide (ret27v.2.2 = (0 : Int)))) || (!decide (ret33v.2.2 = (0 : Int)))) = false → gcall (α := Bool) (!((decide ((u.length : Int) = (0 : Int))) || (decide ((v.length : Int) = (0 : Int))))) (VC21 ret27v.1 ret33v.1) false (fun (ret59v : Bool) => K (ret16v.1 == (((decide ((u.length : Int) = (0 : Int))) || (decide ((v.length : Int) = (0 : Int)))) || ret59v))))))) (fun ret27v => [toV1 (.sl (.int .u8)) ret27v.1, toV1 (.int .i64) ret27v.2.1, toV1 (.int .i64) ret27v.2.2]) (fun ret27v => (⟨62, [(0, [], .v (.c (.p (.sl (.int .u8)) u))), (1, [], .v (.c (.p (.sl (.int .u8)) v))), (5, [], .v (.c (.p .bool ret16v.1))), (6, [], .v (.c (.p (.int .i64) ret16v.2))), (27, [], .tup [.c (.p (.sl (.int .u8)) ret27v.1), .c (.p (.int .i64) ret27v.2.1), .c (.p (.int .i64) ret27v.2.2)])], []⟩ : St)) (by kernel_rfl) rfl (by kernel_rfl) rfl (by kernel_rfl) Try.call24 (by kernel_rfl) (fun ret27v => by kernel_rfl) (fun e => by cases e) (fun hg => link24 u _ h) (fun hg => noF hg) (fun ret27v h => ?_)
    have h : VC24 v (fun (ret33v : (List Int) × Int × Int) => (((((!decide (ret16v.2 = (0 : Int))) || (!decide (ret27v.2.2 = (0 : Int)))) || (!decide (ret33v.2.2 = (0 : Int)))) = true → K false) ∧ ((((!decide (ret16v.2 = (0 : Int))) || (!decide (ret27v.2.2 = (0 : Int)))) || (!decide (ret33v.2.2 = (0 : Int)))) = false → gcall (α := Bool) (!((decide ((u.length : Int) = (0 : Int))) || (decide ((v.length : Int) = (0 : Int))))) (VC21 ret27v.1 ret33v.1) false (fun (ret59v : Bool) => K (ret16v.1 == (((decide ((u.length : Int) = (0 : Int))) || (decide ((v.length : Int) = (0 : Int)))) || ret59v)))))) := h
    refine awl_runp 7 [0, 1, 5, 6, 7, 9] [] (ob := (True ∧ True ∧ True ∧ True ∧ True ∧ True ∧ True ∧ True)) (st' := (⟨62, [(0, [], .v (.c (.p (.sl (.int .u8)) u))), (1, [], .v (.c (.p (.sl (.int .u8)) v))), (5, [], .v (.c (.p .bool ret16v.1))), (6, [], .v (.c (.p (.int .i64) ret16v.2))), (7, [], .v (.c (.p (.sl (.int .u8)) ret27v.1))), (9, [], .v (.c (.p (.int .i64) ret27v.2.2)))], []⟩ : St)) (by kernel_rfl) ⟨trivial, trivial, trivial, trivial, trivial, trivial, trivial, trivial⟩ ?_
    refine awl_nil ?_
    refine thenQ_n ?_
    refine aw_seq ?_
    refine aw_region ?_
    refine awl_runp 1 [0, 1, 5, 6, 7, 9, 32] [] (ob := (True ∧ True)) (st' := (⟨62, [(0, [], .v (.c (.p (.sl (.int .u8)) u))), (1, [], .v (.c (.p (.sl (.int .u8)) v))), (5, [], .v (.c (.p .bool ret16v.1))), (6, [], .v (.c (.p (.int .i64) ret16v.2))), (7, [], .v (.c (.p (.sl (.int .u8)) ret27v.1))), (9, [], .v (.c (.p (.int .i64) ret27v.2.2))), (32, [], .v (.c (.p (.sl (.int .u8)) v)))], []⟩ : St)) (by kernel_rfl) ⟨trivial, trivial⟩ ?_
    refine awl_callk (p := []) (l := [toV1 (.sl (.int .u8)) v]) (cl := []) false [.d (.sl (.int .u8))] [0, 1, 5, 6, 7, 9, 33] [] (fun (ret33v : (List Int) × Int × Int) => (((((!decide (ret16v.2 = (0 : Int))) || (!decide (ret27v.2.2 = (0 : Int)))) || (!decide (ret33v.2.2 = (0 : Int)))) = true → K false) ∧ ((((!decide (ret16v.2 = (0 : Int))) || (!decide (ret27v.2.2 = (0 : Int)))) || (!decide (ret33v.2.2 = (0 : Int)))) = false → gcall (α := Bool) (!((decide ((u.length : Int) = (0 : Int))) || (decide ((v.length : Int) = (0 : Int))))) (VC21 ret27v.1 ret33v.1) false (fun (ret59v : Bool) => K (ret16v.1 == (((decide ((u.length : Int) = (0 : Int))) || (decide ((v.length : Int) = (0 : Int)))) || ret59v)))))) (fun ret33v => [toV1 (.sl (.int .u8)) ret33v.1, toV1 (.int .i64) ret33v.2.1, toV1 (.int .i64) ret33v.2.2]) (fun ret33v => (⟨62, [(0, [], .v (.c (.p (.sl (.int .u8)) u))), (1, [], .v (.c (.p (.sl (.int .u8)) v))), (5, [], .v (.c (.p .bool ret16v.1))), (6, [], .v (.c (.p (.int .i64) ret16v.2))), (7, [], .v (.c (.p (.sl (.int .u8)) ret27v.1))), (9, [], .v (.c (.p (.int .i64) ret27v.2.2))), (33, [], .tup [.c (.p (.sl (.int .u8)) ret33v.1), .c (.p (.int .i64) ret33v.2.1), .c (.p (.int .i64) ret33v.2.2)])], []⟩ : St)) (by kernel_rfl) rfl (by kernel_rfl) rfl (by kernel_rfl) Try.call24 (by kernel_rfl) (fun ret33v => by kernel_rfl) (fun e => by cases e) (fun hg => link24 v _ h) (fun hg => noF hg) (fun ret33v h => ?_)
    have h : (((((!decide (ret16v.2 = (0 : Int))) || (!decide (ret27v.2.2 = (0 : Int)))) || (!decide (ret33v.2.2 = (0 : Int)))) = true → K false) ∧ ((((!decide (ret16v.2 = (0 : Int))) || (!decide (ret27v.2.2 = (0 : Int)))) || (!decide (ret33v.2.2 = (0 : Int)))) = false → gcall (α := Bool) (!((decide ((u.length : Int) = (0 : Int))) || (decide ((v.length : Int) = (0 : Int))))) (VC21 ret27v.1 ret33v.1) false (fun (ret59v : Bool) => K (ret16v.1 == (((decide ((u.length : Int) = (0 : Int))) || (decide ((v.length : Int) = (0 : Int)))) || ret59v))))) := h
    refine awl_runp 7 [0, 1, 5, 6, 7, 9, 10, 12] [] (ob := (True ∧ True ∧ True ∧ True ∧ True ∧ True ∧ True ∧ True)) (st' := (⟨62, [(0, [], .v (.c (.p (.sl (.int .u8)) u))), (1, [], .v (.c (.p (.sl (.int .u8)) v))), (5, [], .v (.c (.p .bool ret16v.1))), (6, [], .v (.c (.p (.int .i64) ret16v.2))), (7, [], .v (.c (.p (.sl (.int .u8)) ret27v.1))), (9, [], .v (.c (.p (.int .i64) ret27v.2.2))), (10, [], .v (.c (.p (.sl (.int .u8)) ret33v.1))), (12, [], .v (.c (.p (.int .i64) ret33v.2.2)))], []⟩ : St)) (by kernel_rfl) ⟨trivial, trivial, trivial, trivial, trivial, trivial, trivial, trivial⟩ ?_
    refine awl_nil ?_
    refine thenQ_n ?_
    refine aw_seq ?_
    refine aw_seq ?_
    refine aw_region ?_
    refine awl_runp 10 [0, 1, 5, 7, 10, 46] [] (ob := (True ∧ True ∧ True ∧ ((!decide (ret16v.2 = (0 : Int))) = false → True) ∧ ((!decide (ret16v.2 = (0 : Int))) = false → True) ∧ True ∧ True ∧ (((!decide (ret16v.2 = (0 : Int))) || (!decide (ret27v.2.2 = (0 : Int)))) = false → True) ∧ (((!decide (ret16v.2 = (0 : Int))) || (!decide (ret27v.2.2 = (0 : Int)))) = false → True) ∧ True ∧ True)) (st' := (⟨62, [(0, [], .v (.c (.p (.sl (.int .u8)) u))), (1, [], .v (.c (.p (.sl (.int .u8)) v))), (5, [], .v (.c (.p .bool ret16v.1))), (7, [], .v (.c (.p (.sl (.int .u8)) ret27v.1))), (10, [], .v (.c (.p (.sl (.int .u8)) ret33v.1))), (46, [], .v (.c (.p .bool (((!decide (ret16v.2 = (0 : Int))) || (!decide (ret27v.2.2 = (0 : Int)))) || (!decide (ret33v.2.2 = (0 : Int)))))))], []⟩ : St)) (by kernel_rfl) ⟨trivial, trivial, trivial, (fun _ => trivial), (fun _ => trivial), trivial, trivial, (fun _ => trivial), (fun _ => trivial), trivial, trivial⟩ ?_
    refine awl_nil ?_
    refine thenQ_n ?_
    refine aw_cond (b := (((!decide (ret16v.2 = (0 : Int))) || (!decide (ret27v.2.2 = (0 : Int)))) || (!decide (ret33v.2.2 = (0 : Int))))) (by kernel_rfl) (fun hb => ?_) (fun hb => ?_)
    · have h := h.1 hb
      refine aw_seq ?_
      refine aw_region ?_
      refine awl_runp 1 [4] [] (ob := (True ∧ True)) (st' := (⟨62, [(4, [], .v (.c (.p .bool false)))], []⟩ : St)) (by kernel_rfl) ⟨trivial, trivial⟩ ?_
      refine awl_nil ?_
      refine thenQ_n ?_
      refine aw_ret ?_
      refine thenQ_r ?_
      exact retQ_r (σ := Bool) (R := (fun y => [toV1 .bool y])) (ob := (True ∧ True)) false (by kernel_rfl) ⟨trivial, trivial⟩ h
    · have h := h.2 hb
      refine aw_skip ?_
      refine thenQ_n ?_
      refine aw_seq ?_
      refine aw_region ?_
      refine awl_runp 12 [47, 56, 57, 58] [] (ob := (True ∧ True ∧ True ∧ True ∧ True ∧ ((decide ((u.length : Int) = (0 : Int))) = false → True) ∧ ((decide ((u.length : Int) = (0 : Int))) = false → True) ∧ ((decide ((u.length : Int) = (0 : Int))) = false → True) ∧ True ∧ True ∧ (((decide ((u.length : Int) = (0 : Int))) || (decide ((v.length : Int) = (0 : Int)))) = false → True) ∧ (((decide ((u.length : Int) = (0 : Int))) || (decide ((v.length : Int) = (0 : Int)))) = false → True) ∧ True)) (st' := (⟨62, [(47, [], .v (.c (.p .bool ret16v.1))), (56, [], .v (.c (.p .bool ((decide ((u.length : Int) = (0 : Int))) || (decide ((v.length : Int) = (0 : Int))))))), (57, [(56, false)], .v (.c (.p (.sl (.int .u8)) ret27v.1))), (58, [(56, false)], .v (.c (.p (.sl (.int .u8)) ret33v.1)))], []⟩ : St)) (by kernel_rfl) ⟨trivial, trivial, trivial, trivial, trivial, (fun _ => trivial), (fun _ => trivial), (fun _ => trivial), trivial, trivial, (fun _ => trivial), (fun _ => trivial), trivial⟩ ?_
      refine awl_callk (p := [(56, false)]) (l := [toV1 (.sl (.int .u8)) ret27v.1, toV1 (.sl (.int .u8)) ret33v.1]) (cl := []) false [.d (.sl (.int .u8)), .d (.sl (.int .u8))] [47, 56, 59] [] (fun (ret59v : Bool) => K (ret16v.1 == (((decide ((u.length : Int) = (0 : Int))) || (decide ((v.length : Int) = (0 : Int)))) || ret59v))) (fun ret59v => [toV1 .bool ret59v]) (fun ret59v => (⟨62, [(47, [], .v (.c (.p .bool ret16v.1))), (56, [], .v (.c (.p .bool ((decide ((u.length : Int) = (0 : Int))) || (decide ((v.length : Int) = (0 : Int))))))), (59, [(56, false)], .v (.c (.p .bool ret59v)))], []⟩ : St)) (by kernel_rfl) rfl (by kernel_rfl) rfl (by kernel_rfl) Try.call21 (by kernel_rfl) (fun ret59v => by kernel_rfl) (fun e => by cases e) (fun hg => link21 ret27v.1 ret33v.1 _ (by have := gcall_T h (show (!((decide ((u.length : Int) = (0 : Int))) || (decide ((v.length : Int) = (0 : Int))))) = true from hg); exact this)) (fun hg => ⟨false, by have := gcall_F h (show (!((decide ((u.length : Int) = (0 : Int))) || (decide ((v.length : Int) = (0 : Int))))) = false from hg); exact this⟩) (fun ret59v h => ?_)
      have h : K (ret16v.1 == (((decide ((u.length : Int) = (0 : Int))) || (decide ((v.length : Int) = (0 : Int)))) || ret59v)) := h
      refine awl_runp 3 [4] [] (ob := (True ∧ True ∧ True ∧ True)) (st' := (⟨62, [(4, [], .v (.c (.p .bool (ret16v.1 == (((decide ((u.length : Int) = (0 : Int))) || (decide ((v.length : Int) = (0 : Int)))) || ret59v)))))], []⟩ : St)) (by kernel_rfl) ⟨trivial, trivial, trivial, trivial⟩ ?_
      refine awl_nil ?_
      refine thenQ_n ?_
      refine aw_ret ?_
      exact retQ_r (σ := Bool) (R := (fun y => [toV1 .bool y])) (ob := (True ∧ True)) (ret16v.1 == (((decide ((u.length : Int) = (0 : Int))) || (decide ((v.length : Int) = (0 : Int)))) || ret59v)) (by kernel_rfl) ⟨trivial, trivial⟩ h

-- coppicer/border.lengths
def VC42_k1 (K : (List Int) → Prop) (out : (List Int)) : Prop :=
  K out

def VC42_k3 (i : Int) (out : (List Int)) (X1 : Int × Int × (List Int) → Prop) (k3 : Int) : Prop :=
  (inIdx i out.length ∧ (InR (i + (1 : Int)) ∧ X1 (k3, (i + (1 : Int)), (out.set ((i).toNat) k3))))

def VC42_k2 (w : (List Int)) (i : Int) (out : (List Int)) (X1 : Int × Int × (List Int) → Prop) (k2 : Int) : Prop :=
  (inIdx k2 w.length ∧ inIdx i w.length ∧ (((decide ((w.getD (k2).toNat (0 : Int)) = (w.getD (i).toNat (0 : Int)))) = true → (InR (k2 + (1 : Int)) ∧ VC42_k3 i out X1 (k2 + (1 : Int)))) ∧ ((decide ((w.getD (k2).toNat (0 : Int)) = (w.getD (i).toNat (0 : Int)))) = false → VC42_k3 i out X1 k2)))

def VC42_l2 (w : (List Int)) (i : Int) (out : (List Int)) (X1 : Int × Int × (List Int) → Prop) (k2 : Int) (X2 : Int → Prop) : Prop :=
  (((decide ((0 : Int) < k2)) = true → inIdx k2 w.length) ∧ ((decide ((0 : Int) < k2)) = true → inIdx i w.length) ∧ ((((decide ((0 : Int) < k2)) && (!decide ((w.getD (k2).toNat (0 : Int)) = (w.getD (i).toNat (0 : Int))))) = true → (InR (k2 - (1 : Int)) ∧ inIdx (k2 - (1 : Int)) out.length ∧ X2 (out.getD (((k2 - (1 : Int))).toNat) (0 : Int)))) ∧ (((decide ((0 : Int) < k2)) && (!decide ((w.getD (k2).toNat (0 : Int)) = (w.getD (i).toNat (0 : Int))))) = false → VC42_k2 w i out X1 k2)))

def VC42_l1 (w : (List Int)) (K : (List Int) → Prop) (k : Int) (i : Int) (out : (List Int)) (X1 : Int × Int × (List Int) → Prop) : Prop :=
  (((decide (i < (w.length : Int))) = true → Loop (σ := Int) (fun s X => VC42_l2 w i out X1 s X) k) ∧ ((decide (i < (w.length : Int))) = false → VC42_k1 K out))

def VC42 (w : (List Int)) (K : (List Int) → Prop) : Prop :=
  (room (w.length : Int) ∧ Loop (σ := Int × Int × (List Int)) (fun s X => VC42_l1 w K s.1 s.2.1 s.2.2 X) ((0 : Int), (1 : Int), (List.replicate ((w.length : Int)).toNat (0 : Int))))

set_option maxHeartbeats 4000000 in
theorem link42 (w : (List Int)) (K : (List Int) → Prop) (h : VC42 w K) : ACalls Try.prog 42 [toV1 (.sl (.int .u8)) w] (fun res => ∃ y, res = (fun y => [toV1 (.sl (.int .i64)) y]) y ∧ K y) := by
  refine acalls_of_aw [(.sl (.int .i64))] [.t 2] Try.func42 rfl rfl rfl ?_
  unfold VC42 at h
  refine aw_seq ?_
  refine aw_region ?_
  refine awl_runp 1 [0] [] (ob := (True ∧ True)) (st' := (⟨49, [(0, [], .v (.c (.p (.sl (.int .u8)) w)))], []⟩ : St)) (by kernel_rfl) ⟨trivial, trivial⟩ ?_
  refine awl_nil ?_
  refine thenQ_n ?_
  refine aw_seq ?_
  refine aw_region ?_
  obtain ⟨o1, h⟩ := h
  refine awl_runp 4 [0, 3] [8] (ob := (True ∧ True ∧ room (w.length : Int) ∧ True ∧ True)) (st' := (⟨49, [(0, [], .v (.c (.p (.sl (.int .u8)) w))), (3, [], .v (.c (.own 8)))], [(8, [], .arr 3 (.int .i64) (List.replicate ((w.length : Int)).toNat (0 : Int)))]⟩ : St)) (by kernel_rfl) ⟨trivial, trivial, o1, trivial, trivial⟩ ?_
  refine awl_nil ?_
  refine thenQ_n ?_
  refine aw_seq ?_
  refine aw_region ?_
  refine awl_runp 1 [0, 3, 4] [8] (ob := (True ∧ True)) (st' := (⟨49, [(0, [], .v (.c (.p (.sl (.int .u8)) w))), (3, [], .v (.c (.own 8))), (4, [], .v (.c (.p (.int .i64) (0 : Int))))], [(8, [], .arr 3 (.int .i64) (List.replicate ((w.length : Int)).toNat (0 : Int)))]⟩ : St)) (by kernel_rfl) ⟨trivial, trivial⟩ ?_
  refine awl_nil ?_
  refine thenQ_n ?_
  refine aw_seq ?_
  refine aw_seq ?_
  refine aw_region ?_
  refine awl_runp 1 [0, 3, 4, 5] [8] (ob := (True ∧ True)) (st' := (⟨49, [(0, [], .v (.c (.p (.sl (.int .u8)) w))), (3, [], .v (.c (.own 8))), (4, [], .v (.c (.p (.int .i64) (0 : Int)))), (5, [], .v (.c (.p (.int .i64) (1 : Int))))], [(8, [], .arr 3 (.int .i64) (List.replicate ((w.length : Int)).toNat (0 : Int)))]⟩ : St)) (by kernel_rfl) ⟨trivial, trivial⟩ ?_
  refine awl_nil ?_
  refine thenQ_n ?_
  refine withJoin (σ := (List Int)) (fun s => (⟨49, [(3, [], .v (.c (.own 8)))], [(8, [], .arr 3 (.int .i64) s)]⟩ : St)) (fun s => VC42_k1 K s) (fun out h => ?_) (fun rest1 => ?_)
  · have h : VC42_k1 K out := h
    unfold VC42_k1 at h
    refine thenQ_n ?_
    refine aw_seq ?_
    refine aw_region ?_
    refine awl_runp 2 [2] [8] (ob := (True ∧ True ∧ True)) (st' := (⟨49, [(2, [], .v (.c (.own 8)))], [(8, [], .arr 3 (.int .i64) out)]⟩ : St)) (by kernel_rfl) ⟨trivial, trivial, trivial⟩ ?_
    refine awl_nil ?_
    refine thenQ_n ?_
    refine aw_conv [.freeze 8] (st' := (⟨49, [(2, [], .v (.c (.p (.sl (.int .i64)) out)))], []⟩ : St)) (by kernel_rfl) ?_
    refine aw_ret ?_
    exact retQ_r (σ := (List Int)) (R := (fun y => [toV1 (.sl (.int .i64)) y])) (ob := (True ∧ True)) out (by kernel_rfl) ⟨trivial, trivial⟩ h
  · refine aw_block ?_
    refine aw_loop (σ := Int × Int × (List Int)) (fun s => (⟨49, [(0, [], .v (.c (.p (.sl (.int .u8)) w))), (3, [], .v (.c (.own 8))), (4, [], .v (.c (.p (.int .i64) s.1))), (5, [], .v (.c (.p (.int .i64) s.2.1)))], [(8, [], .arr 3 (.int .i64) s.2.2)]⟩ : St)) (fun s X => VC42_l1 w K s.1 s.2.1 s.2.2 X) (s0 := ((0 : Int), (1 : Int), (List.replicate ((w.length : Int)).toNat (0 : Int)))) (fun s X1 h => ?_) h
    obtain ⟨k, i, out⟩ := s
    have h : VC42_l1 w K k i out X1 := h
    unfold VC42_l1 at h
    refine aw_seq ?_
    refine aw_seq ?_
    refine aw_region ?_
    refine awl_runp 4 [0, 3, 4, 5, 12] [8] (ob := (True ∧ True ∧ True ∧ True ∧ True)) (st' := (⟨49, [(0, [], .v (.c (.p (.sl (.int .u8)) w))), (3, [], .v (.c (.own 8))), (4, [], .v (.c (.p (.int .i64) k))), (5, [], .v (.c (.p (.int .i64) i))), (12, [], .v (.c (.p .bool (decide (i < (w.length : Int))))))], [(8, [], .arr 3 (.int .i64) out)]⟩ : St)) (by kernel_rfl) ⟨trivial, trivial, trivial, trivial, trivial⟩ ?_
    refine awl_nil ?_
    refine thenQ_n ?_
    refine aw_cond (b := (decide (i < (w.length : Int)))) (by kernel_rfl) (fun hb => ?_) (fun hb => ?_)
    · have h := h.1 hb
      refine aw_skip ?_
      refine thenQ_n ?_
      refine aw_seq ?_
      refine aw_block ?_
      refine aw_seq ?_
      refine withJoin (σ := Int) (fun s => (⟨49, [(0, [], .v (.c (.p (.sl (.int .u8)) w))), (3, [], .v (.c (.own 8))), (4, [], .v (.c (.p (.int .i64) s))), (5, [], .v (.c (.p (.int .i64) i)))], [(8, [], .arr 3 (.int .i64) out)]⟩ : St)) (fun s => VC42_k2 w i out X1 s) (fun k2 h => ?_) (fun rest3 => ?_)
      · have h : VC42_k2 w i out X1 k2 := h
        unfold VC42_k2 at h
        refine thenQ_n ?_
        refine aw_seq ?_
        refine aw_seq ?_
        refine awd_begin [] (by kernel_rfl) ?_
        obtain ⟨o1, o2, h⟩ := h
        refine awd_runp (by kernel_rfl) [0, 1, 2, 3, 4, 5, 6, 7, 8] [0, 3, 4, 5, 41] [8] (ob := (True ∧ True ∧ inIdx k2 w.length ∧ True ∧ True ∧ True ∧ inIdx i w.length ∧ True ∧ True ∧ True)) (done' := [8, 7, 6, 5, 4, 3, 2, 1, 0]) (st' := (⟨49, [(0, [], .v (.c (.p (.sl (.int .u8)) w))), (3, [], .v (.c (.own 8))), (4, [], .v (.c (.p (.int .i64) k2))), (5, [], .v (.c (.p (.int .i64) i))), (41, [], .v (.c (.p .bool (decide ((w.getD (k2).toNat (0 : Int)) = (w.getD (i).toNat (0 : Int)))))))], [(8, [], .arr 3 (.int .i64) out)]⟩ : St)) (by kernel_rfl) ⟨trivial, trivial, o1, trivial, trivial, trivial, o2, trivial, trivial, trivial⟩ ?_
        refine awd_done (by kernel_rfl) ?_
        refine thenQ_n ?_
        refine withJoin (σ := Int) (fun s => (⟨49, [(0, [], .v (.c (.p (.sl (.int .u8)) w))), (3, [], .v (.c (.own 8))), (4, [], .v (.c (.p (.int .i64) s))), (5, [], .v (.c (.p (.int .i64) i)))], [(8, [], .arr 3 (.int .i64) out)]⟩ : St)) (fun s => VC42_k3 i out X1 s) (fun k3 h => ?_) (fun rest2 => ?_)
        · have h : VC42_k3 i out X1 k3 := h
          unfold VC42_k3 at h
          refine thenQ_n ?_
          refine aw_region ?_
          obtain ⟨o1, h⟩ := h
          refine awl_runp 5 [0, 3, 4, 5] [8] (ob := (True ∧ True ∧ True ∧ inIdx i out.length ∧ True ∧ True)) (st' := (⟨49, [(0, [], .v (.c (.p (.sl (.int .u8)) w))), (3, [], .v (.c (.own 8))), (4, [], .v (.c (.p (.int .i64) k3))), (5, [], .v (.c (.p (.int .i64) i)))], [(8, [], .arr 3 (.int .i64) (out.set ((i).toNat) k3))]⟩ : St)) (by kernel_rfl) ⟨trivial, trivial, trivial, o1, trivial, trivial⟩ ?_
          refine awl_nil ?_
          refine blockQ_n ?_
          refine thenQ_n ?_
          refine aw_region ?_
          obtain ⟨o1, h⟩ := h
          refine awl_runp 3 [0, 3, 4, 5] [8] (ob := (True ∧ InR (i + (1 : Int)) ∧ True ∧ True)) (st' := (⟨49, [(0, [], .v (.c (.p (.sl (.int .u8)) w))), (3, [], .v (.c (.own 8))), (4, [], .v (.c (.p (.int .i64) k3))), (5, [], .v (.c (.p (.int .i64) (i + (1 : Int)))))], [(8, [], .arr 3 (.int .i64) (out.set ((i).toNat) k3))]⟩ : St)) (by kernel_rfl) ⟨trivial, o1, trivial, trivial⟩ ?_
          refine awl_nil ?_
          exact thenQ_n ⟨(k3, (i + (1 : Int)), (out.set ((i).toNat) k3)), rfl, h⟩
        · refine aw_cond (b := (decide ((w.getD (k2).toNat (0 : Int)) = (w.getD (i).toNat (0 : Int))))) (by kernel_rfl) (fun hb => ?_) (fun hb => ?_)
          · have h := h.1 hb
            refine aw_region ?_
            obtain ⟨o1, h⟩ := h
            refine awl_runp 3 [0, 3, 4, 5] [8] (ob := (True ∧ InR (k2 + (1 : Int)) ∧ True ∧ True)) (st' := (⟨49, [(0, [], .v (.c (.p (.sl (.int .u8)) w))), (3, [], .v (.c (.own 8))), (4, [], .v (.c (.p (.int .i64) (k2 + (1 : Int))))), (5, [], .v (.c (.p (.int .i64) i)))], [(8, [], .arr 3 (.int .i64) out)]⟩ : St)) (by kernel_rfl) ⟨trivial, o1, trivial, trivial⟩ ?_
            refine awl_nil ?_
            exact rest2 (k2 + (1 : Int)) h
          · have h := h.2 hb
            refine aw_conv [.prune [0, 3, 4, 5] [8]] (st' := (⟨49, [(0, [], .v (.c (.p (.sl (.int .u8)) w))), (3, [], .v (.c (.own 8))), (4, [], .v (.c (.p (.int .i64) k2))), (5, [], .v (.c (.p (.int .i64) i)))], [(8, [], .arr 3 (.int .i64) out)]⟩ : St)) (by kernel_rfl) ?_
            refine aw_skip ?_
            exact rest2 k2 h
      · refine aw_block ?_
        refine aw_conv [.prune [0, 3, 4, 5] [8]] (st' := (⟨49, [(0, [], .v (.c (.p (.sl (.int .u8)) w))), (3, [], .v (.c (.own 8))), (4, [], .v (.c (.p (.int .i64) k))), (5, [], .v (.c (.p (.int .i64) i)))], [(8, [], .arr 3 (.int .i64) out)]⟩ : St)) (by kernel_rfl) ?_
        refine aw_loop (σ := Int) (fun s => (⟨49, [(0, [], .v (.c (.p (.sl (.int .u8)) w))), (3, [], .v (.c (.own 8))), (4, [], .v (.c (.p (.int .i64) s))), (5, [], .v (.c (.p (.int .i64) i)))], [(8, [], .arr 3 (.int .i64) out)]⟩ : St)) (fun s X => VC42_l2 w i out X1 s X) (s0 := k) (fun k2 X2 h => ?_) h
        have h : VC42_l2 w i out X1 k2 X2 := h
        unfold VC42_l2 at h
        refine aw_seq ?_
        refine aw_seq ?_
        refine awd_begin [] (by kernel_rfl) ?_
        obtain ⟨o1, o2, h⟩ := h
        refine awd_runp (by kernel_rfl) [0, 1, 2, 3, 4, 5, 6, 7, 8, 9, 10, 11, 12] [0, 3, 4, 5, 27] [8] (ob := (True ∧ True ∧ True ∧ ((decide ((0 : Int) < k2)) = true → True) ∧ ((decide ((0 : Int) < k2)) = true → True) ∧ ((decide ((0 : Int) < k2)) = true → inIdx k2 w.length) ∧ ((decide ((0 : Int) < k2)) = true → True) ∧ ((decide ((0 : Int) < k2)) = true → True) ∧ ((decide ((0 : Int) < k2)) = true → True) ∧ ((decide ((0 : Int) < k2)) = true → inIdx i w.length) ∧ ((decide ((0 : Int) < k2)) = true → True) ∧ ((decide ((0 : Int) < k2)) = true → True) ∧ True ∧ True)) (done' := [12, 11, 10, 9, 8, 7, 6, 5, 4, 3, 2, 1, 0]) (st' := (⟨49, [(0, [], .v (.c (.p (.sl (.int .u8)) w))), (3, [], .v (.c (.own 8))), (4, [], .v (.c (.p (.int .i64) k2))), (5, [], .v (.c (.p (.int .i64) i))), (27, [], .v (.c (.p .bool ((decide ((0 : Int) < k2)) && (!decide ((w.getD (k2).toNat (0 : Int)) = (w.getD (i).toNat (0 : Int))))))))], [(8, [], .arr 3 (.int .i64) out)]⟩ : St)) (by kernel_rfl) ⟨trivial, trivial, trivial, (fun _ => trivial), (fun _ => trivial), o1, (fun _ => trivial), (fun _ => trivial), (fun _ => trivial), o2, (fun _ => trivial), (fun _ => trivial), trivial, trivial⟩ ?_
        refine awd_done (by kernel_rfl) ?_
        refine thenQ_n ?_
        refine aw_cond (b := ((decide ((0 : Int) < k2)) && (!decide ((w.getD (k2).toNat (0 : Int)) = (w.getD (i).toNat (0 : Int)))))) (by kernel_rfl) (fun hb => ?_) (fun hb => ?_)
        · have h := h.1 hb
          refine aw_skip ?_
          refine thenQ_n ?_
          refine aw_block ?_
          refine aw_region ?_
          obtain ⟨o1, o2, h⟩ := h
          refine awl_runp 6 [0, 3, 4, 5] [8] (ob := (True ∧ True ∧ InR (k2 - (1 : Int)) ∧ inIdx (k2 - (1 : Int)) out.length ∧ True ∧ True ∧ True)) (st' := (⟨49, [(0, [], .v (.c (.p (.sl (.int .u8)) w))), (3, [], .v (.c (.own 8))), (4, [], .v (.c (.p (.int .i64) (out.getD (((k2 - (1 : Int))).toNat) (0 : Int))))), (5, [], .v (.c (.p (.int .i64) i)))], [(8, [], .arr 3 (.int .i64) out)]⟩ : St)) (by kernel_rfl) ⟨trivial, trivial, o1, o2, trivial, trivial, trivial⟩ ?_
          refine awl_nil ?_
          refine blockQ_n ?_
          exact thenQ_n ⟨(out.getD (((k2 - (1 : Int))).toNat) (0 : Int)), rfl, h⟩
        · have h := h.2 hb
          refine aw_conv [.prune [0, 3, 4, 5] [8]] (st' := (⟨49, [(0, [], .v (.c (.p (.sl (.int .u8)) w))), (3, [], .v (.c (.own 8))), (4, [], .v (.c (.p (.int .i64) k2))), (5, [], .v (.c (.p (.int .i64) i)))], [(8, [], .arr 3 (.int .i64) out)]⟩ : St)) (by kernel_rfl) ?_
          refine aw_exit ?_
          refine thenQ_x ?_
          refine thenQ_x ?_
          refine blockQ_hit ?_
          exact rest3 k2 h
    · have h := h.2 hb
      refine aw_conv [.prune [3] [8]] (st' := (⟨49, [(3, [], .v (.c (.own 8)))], [(8, [], .arr 3 (.int .i64) out)]⟩ : St)) (by kernel_rfl) ?_
      refine aw_exit ?_
      refine thenQ_x ?_
      refine thenQ_x ?_
      refine blockQ_hit ?_
      exact rest1 out h

-- coppicer/border.Borders
def VC25 (w : (List Int)) (K : (List Int) × Int → Prop) : Prop :=
  VC38 [w] (fun (ret7v : Int) => (((!decide (ret7v = (0 : Int))) = true → K (([] : (List Int)), ret7v)) ∧ ((!decide (ret7v = (0 : Int))) = false → VC42 w (fun (ret12v : (List Int)) => K (ret12v, (0 : Int))))))

set_option maxHeartbeats 4000000 in
theorem link25 (w : (List Int)) (K : (List Int) × Int → Prop) (h : VC25 w K) : ACalls Try.prog 25 [toV1 (.sl (.int .u8)) w] (fun res => ∃ y, res = (fun y => [toV1 (.sl (.int .i64)) y.1, toV1 (.int .i64) y.2]) y ∧ K y) := by
  refine acalls_of_aw [(.sl (.int .i64)), (.int .i64)] [.t 2, .t 3] Try.func25 rfl rfl rfl ?_
  unfold VC25 at h
  refine aw_seq ?_
  refine aw_region ?_
  refine awl_runp 2 [0] [] (ob := (True ∧ True ∧ True)) (st' := (⟨13, [(0, [], .v (.c (.p (.sl (.int .u8)) w)))], []⟩ : St)) (by kernel_rfl) ⟨trivial, trivial, trivial⟩ ?_
  refine awl_nil ?_
  refine thenQ_n ?_
  refine aw_seq ?_
  refine aw_seq ?_
  refine aw_region ?_
  refine awl_runp 2 [0, 6] [6] (ob := (True ∧ True ∧ True)) (st' := (⟨13, [(0, [], .v (.c (.p (.sl (.int .u8)) w))), (6, [], .v (.c (.own 6)))], [(6, [], .arr 22 (.sl (.int .u8)) [w])]⟩ : St)) (by kernel_rfl) ⟨trivial, trivial, trivial⟩ ?_
  refine awl_callk (p := []) (l := [toV1 (.sl (.sl (.int .u8))) [w]]) (cl := []) true [.d (.sl (.sl (.int .u8)))] [0, 7] [] (fun (ret7v : Int) => (((!decide (ret7v = (0 : Int))) = true → K (([] : (List Int)), ret7v)) ∧ ((!decide (ret7v = (0 : Int))) = false → VC42 w (fun (ret12v : (List Int)) => K (ret12v, (0 : Int)))))) (fun ret7v => [toV1 (.int .i64) ret7v]) (fun ret7v => (⟨13, [(0, [], .v (.c (.p (.sl (.int .u8)) w))), (7, [], .v (.c (.p (.int .i64) ret7v)))], []⟩ : St)) (by kernel_rfl) rfl (by kernel_rfl) rfl (by kernel_rfl) Try.call38 (by kernel_rfl) (fun ret7v => by kernel_rfl) (fun _ _ => rfl) (fun hg => link38 [w] _ h) (fun hg => noF hg) (fun ret7v h => ?_)
  have h : (((!decide (ret7v = (0 : Int))) = true → K (([] : (List Int)), ret7v)) ∧ ((!decide (ret7v = (0 : Int))) = false → VC42 w (fun (ret12v : (List Int)) => K (ret12v, (0 : Int))))) := h
  refine awl_runp 1 [0, 4] [] (ob := (True ∧ True)) (st' := (⟨13, [(0, [], .v (.c (.p (.sl (.int .u8)) w))), (4, [], .v (.c (.p (.int .i64) ret7v)))], []⟩ : St)) (by kernel_rfl) ⟨trivial, trivial⟩ ?_
  refine awl_nil ?_
  refine thenQ_n ?_
  refine aw_seq ?_
  refine aw_region ?_
  refine awl_runp 2 [0, 4, 9] [] (ob := (True ∧ True ∧ True)) (st' := (⟨13, [(0, [], .v (.c (.p (.sl (.int .u8)) w))), (4, [], .v (.c (.p (.int .i64) ret7v))), (9, [], .v (.c (.p .bool (!decide (ret7v = (0 : Int))))))], []⟩ : St)) (by kernel_rfl) ⟨trivial, trivial, trivial⟩ ?_
  refine awl_nil ?_
  refine thenQ_n ?_
  refine aw_cond (b := (!decide (ret7v = (0 : Int)))) (by kernel_rfl) (fun hb => ?_) (fun hb => ?_)
  · have h := h.1 hb
    refine aw_seq ?_
    refine aw_region ?_
    refine awl_runp 3 [2, 3] [] (ob := (True ∧ True ∧ True ∧ True)) (st' := (⟨13, [(2, [], .v (.c (.nils))), (3, [], .v (.c (.p (.int .i64) ret7v)))], []⟩ : St)) (by kernel_rfl) ⟨trivial, trivial, trivial, trivial⟩ ?_
    refine awl_nil ?_
    refine thenQ_n ?_
    refine aw_ret ?_
    refine thenQ_r ?_
    exact retQ_r (σ := (List Int) × Int) (R := (fun y => [toV1 (.sl (.int .i64)) y.1, toV1 (.int .i64) y.2])) (ob := (True ∧ True ∧ True)) (([] : (List Int)), ret7v) (by kernel_rfl) ⟨trivial, trivial, trivial⟩ h
  · have h := h.2 hb
    refine aw_skip ?_
    refine thenQ_n ?_
    refine aw_seq ?_
    refine aw_region ?_
    refine awl_runp 1 [11] [] (ob := (True ∧ True)) (st' := (⟨13, [(11, [], .v (.c (.p (.sl (.int .u8)) w)))], []⟩ : St)) (by kernel_rfl) ⟨trivial, trivial⟩ ?_
    refine awl_callk (p := []) (l := [toV1 (.sl (.int .u8)) w]) (cl := []) false [.d (.sl (.int .u8))] [12] [] (fun (ret12v : (List Int)) => K (ret12v, (0 : Int))) (fun ret12v => [toV1 (.sl (.int .i64)) ret12v]) (fun ret12v => (⟨13, [(12, [], .v (.c (.p (.sl (.int .i64)) ret12v)))], []⟩ : St)) (by kernel_rfl) rfl (by kernel_rfl) rfl (by kernel_rfl) Try.call42 (by kernel_rfl) (fun ret12v => by kernel_rfl) (fun e => by cases e) (fun hg => link42 w _ h) (fun hg => noF hg) (fun ret12v h => ?_)
    have h : K (ret12v, (0 : Int)) := h
    refine awl_runp 2 [2, 3] [] (ob := (True ∧ True ∧ True)) (st' := (⟨13, [(2, [], .v (.c (.p (.sl (.int .i64)) ret12v))), (3, [], .v (.c (.p (.int .i64) (0 : Int))))], []⟩ : St)) (by kernel_rfl) ⟨trivial, trivial, trivial⟩ ?_
    refine awl_nil ?_
    refine thenQ_n ?_
    refine aw_ret ?_
    exact retQ_r (σ := (List Int) × Int) (R := (fun y => [toV1 (.sl (.int .i64)) y.1, toV1 (.int .i64) y.2])) (ob := (True ∧ True ∧ True)) (ret12v, (0 : Int)) (by kernel_rfl) ⟨trivial, trivial, trivial⟩ h

-- coppicer/coppicerref.Join
def VC22 (a : (List Int)) (b : (List Int)) (K : (List Int) → Prop) : Prop :=
  (roomN (([] : List Int).length + a.length) ∧ roomN ((([] : List Int) ++ a).length + b.length) ∧ K ((([] : List Int) ++ a) ++ b))

set_option maxHeartbeats 4000000 in
theorem link22 (a : (List Int)) (b : (List Int)) (K : (List Int) → Prop) (h : VC22 a b K) : ACalls Try.prog 22 [toV1 (.sl (.int .u8)) a, toV1 (.sl (.int .u8)) b] (fun res => ∃ y, res = (fun y => [toV1 (.sl (.int .u8)) y]) y ∧ K y) := by
  refine acalls_of_aw [(.sl (.int .u8))] [.t 4] Try.func22 rfl rfl rfl ?_
  unfold VC22 at h
  refine aw_seq ?_
  refine aw_region ?_
  refine awl_runp 1 [0, 1] [] (ob := (True ∧ True)) (st' := (⟨10, [(0, [], .v (.c (.p (.sl (.int .u8)) a))), (1, [], .v (.c (.p (.sl (.int .u8)) b)))], []⟩ : St)) (by kernel_rfl) ⟨trivial, trivial⟩ ?_
  refine awl_nil ?_
  refine thenQ_n ?_
  refine aw_seq ?_
  refine aw_region ?_
  obtain ⟨o1, o2, h⟩ := h
  refine awl_runp 6 [4] [9] (ob := (True ∧ True ∧ roomN (([] : List Int).length + a.length) ∧ True ∧ roomN ((([] : List Int) ++ a).length + b.length) ∧ True ∧ True)) (st' := (⟨10, [(4, [], .v (.c (.own 9)))], [(9, [], .arr 5 (.int .u8) ((([] : List Int) ++ a) ++ b))]⟩ : St)) (by kernel_rfl) ⟨trivial, trivial, o1, trivial, o2, trivial, trivial⟩ ?_
  refine awl_nil ?_
  refine thenQ_n ?_
  refine aw_conv [.freeze 9] (st' := (⟨10, [(4, [], .v (.c (.p (.sl (.int .u8)) ((([] : List Int) ++ a) ++ b))))], []⟩ : St)) (by kernel_rfl) ?_
  refine aw_ret ?_
  exact retQ_r (σ := (List Int)) (R := (fun y => [toV1 (.sl (.int .u8)) y])) (ob := (True ∧ True)) ((([] : List Int) ++ a) ++ b) (by kernel_rfl) ⟨trivial, trivial⟩ h

end Dec
