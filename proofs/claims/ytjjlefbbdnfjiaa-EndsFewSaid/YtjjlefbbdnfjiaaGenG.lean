/-
  Printed by dec.py: of each function its plain demand, and that the demand gives the contract.
-/
import Derived.Test.YtjjlefbbdnfjiaaGenE
set_option linter.unusedVariables false
set_option linter.unusedSimpArgs false
set_option maxRecDepth 100000
namespace Dec
open Go Go.RowKit Go.Proofs

-- bytes.HasPrefix
def VC46 (sv : (List Int)) (prefixv : (List Int)) (K : Bool → Prop) : Prop :=
  (((decide ((prefixv.length : Int) ≤ (sv.length : Int))) = true → (0 ≤ (prefixv.length : Int) ∧ (prefixv.length : Int) ≤ (sv.length : Int))) ∧ gcall (α := Bool) (decide ((prefixv.length : Int) ≤ (sv.length : Int))) (VC40 (sv.take ((prefixv.length : Int)).toNat) prefixv) false (fun (ret16v : Bool) => K ((decide ((prefixv.length : Int) ≤ (sv.length : Int))) && ret16v)))

set_option maxHeartbeats 4000000 in
theorem link46 (sv : (List Int)) (prefixv : (List Int)) (K : Bool → Prop) (h : VC46 sv prefixv K) : ACalls Try.prog 46 [toV1 (.sl (.int .u8)) sv, toV1 (.sl (.int .u8)) prefixv] (fun res => ∃ y, res = (fun y => [toV1 .bool y]) y ∧ K y) := by
  refine acalls_of_aw [.bool] [4] Try.func46 rfl rfl rfl ?_
  unfold VC46 at h
  refine aw_seq ?_
  refine aw_region ?_
  refine awl_runp 1 [0, 1] [] (ob := (True ∧ True)) (st' := (⟨18, [(0, [], .v (.c (.p (.sl (.int .u8)) sv))), (1, [], .v (.c (.p (.sl (.int .u8)) prefixv)))], []⟩ : St)) (by kernel_rfl) ⟨trivial, trivial⟩ ?_
  refine awl_nil ?_
  refine thenQ_n ?_
  refine aw_seq ?_
  refine aw_region ?_
  obtain ⟨o1, h⟩ := h
  refine awl_runp 11 [10, 14, 15] [] (ob := (True ∧ True ∧ True ∧ True ∧ True ∧ True ∧ ((decide ((prefixv.length : Int) ≤ (sv.length : Int))) = true → True) ∧ ((decide ((prefixv.length : Int) ≤ (sv.length : Int))) = true → True) ∧ ((decide ((prefixv.length : Int) ≤ (sv.length : Int))) = true → True) ∧ ((decide ((prefixv.length : Int) ≤ (sv.length : Int))) = true → (0 ≤ (prefixv.length : Int) ∧ (prefixv.length : Int) ≤ (sv.length : Int))) ∧ ((decide ((prefixv.length : Int) ≤ (sv.length : Int))) = true → True) ∧ True)) (st' := (⟨18, [(10, [], .v (.c (.p .bool (decide ((prefixv.length : Int) ≤ (sv.length : Int)))))), (14, [(10, true)], .v (.c (.p (.sl (.int .u8)) (sv.take ((prefixv.length : Int)).toNat)))), (15, [(10, true)], .v (.c (.p (.sl (.int .u8)) prefixv)))], []⟩ : St)) (by kernel_rfl) ⟨trivial, trivial, trivial, trivial, trivial, trivial, (fun _ => trivial), (fun _ => trivial), (fun _ => trivial), o1, (fun _ => trivial), trivial⟩ ?_
  refine awl_callk (p := [(10, true)]) (l := [toV1 (.sl (.int .u8)) (sv.take ((prefixv.length : Int)).toNat), toV1 (.sl (.int .u8)) prefixv]) false [(.sl (.int .u8)), (.sl (.int .u8))] [10, 16] [] (fun (ret16v : Bool) => K ((decide ((prefixv.length : Int) ≤ (sv.length : Int))) && ret16v)) (fun ret16v => [toV1 .bool ret16v]) (fun ret16v => (⟨18, [(10, [], .v (.c (.p .bool (decide ((prefixv.length : Int) ≤ (sv.length : Int)))))), (16, [(10, true)], .v (.c (.p .bool ret16v)))], []⟩ : St)) (by kernel_rfl) rfl (by kernel_rfl) rfl rfl Try.call40 (by kernel_rfl) (fun ret16v => by kernel_rfl) (fun e => by cases e) (fun hg => link40 (sv.take ((prefixv.length : Int)).toNat) prefixv _ (by have := gcall_T h (show (decide ((prefixv.length : Int) ≤ (sv.length : Int))) = true from hg); exact this)) (fun hg => ⟨false, by have := gcall_F h (show (decide ((prefixv.length : Int) ≤ (sv.length : Int))) = false from hg); exact this⟩) (fun ret16v h => ?_)
  have h : K ((decide ((prefixv.length : Int) ≤ (sv.length : Int))) && ret16v) := h
  refine awl_runp 2 [4] [] (ob := (True ∧ True ∧ True)) (st' := (⟨18, [(4, [], .v (.c (.p .bool ((decide ((prefixv.length : Int) ≤ (sv.length : Int))) && ret16v))))], []⟩ : St)) (by kernel_rfl) ⟨trivial, trivial, trivial⟩ ?_
  refine awl_nil ?_
  refine thenQ_n ?_
  refine aw_ret ?_
  exact retQ_r (σ := Bool) (R := (fun y => [toV1 .bool y])) ((decide ((prefixv.length : Int) ≤ (sv.length : Int))) && ret16v) (by kernel_rfl) h

-- coppicer/ends.Count
def VC36_k1 (K : Int × Int → Prop) (n : Int) : Prop :=
  K (n, (0 : Int))

def VC36_k2 (i : Int) (X1 : Int × Int → Prop) (n2 : Int) : Prop :=
  (InR (i + (1 : Int)) ∧ X1 (n2, (i + (1 : Int))))

def VC36_l1 (w : (List Int)) (u : (List Int)) (K : Int × Int → Prop) (n : Int) (i : Int) (X1 : Int × Int → Prop) : Prop :=
  (InR (i + (u.length : Int)) ∧ (((decide ((i + (u.length : Int)) ≤ (w.length : Int))) = true → ((0 ≤ i ∧ i ≤ (w.length : Int)) ∧ VC46 (w.drop (i).toNat) u (fun (ret29v : Bool) => ((ret29v = true → (InR (n + (1 : Int)) ∧ VC36_k2 i X1 (n + (1 : Int)))) ∧ (ret29v = false → VC36_k2 i X1 n))))) ∧ ((decide ((i + (u.length : Int)) ≤ (w.length : Int))) = false → VC36_k1 K n)))

def VC36 (w : (List Int)) (u : (List Int)) (K : Int × Int → Prop) : Prop :=
  VC38 [w, u] (fun (ret12v : Int) => (((!decide (ret12v = (0 : Int))) = true → K ((0 : Int), ret12v)) ∧ ((!decide (ret12v = (0 : Int))) = false → Loop (σ := Int × Int) (fun s X => VC36_l1 w u K s.1 s.2 X) ((0 : Int), (0 : Int)))))

set_option maxHeartbeats 4000000 in
theorem link36 (w : (List Int)) (u : (List Int)) (K : Int × Int → Prop) (h : VC36 w u K) : ACalls Try.prog 36 [toV1 (.sl (.int .u8)) w, toV1 (.sl (.int .u8)) u] (fun res => ∃ y, res = (fun y => [toV1 (.int .i64) y.1, toV1 (.int .i64) y.2]) y ∧ K y) := by
  refine acalls_of_aw [(.int .i64), (.int .i64)] [4, 5] Try.func36 rfl rfl rfl ?_
  unfold VC36 at h
  refine aw_seq ?_
  refine aw_region ?_
  refine awl_runp 2 [0, 1] [] (ob := (True ∧ True ∧ True)) (st' := (⟨33, [(0, [], .v (.c (.p (.sl (.int .u8)) w))), (1, [], .v (.c (.p (.sl (.int .u8)) u)))], []⟩ : St)) (by kernel_rfl) ⟨trivial, trivial, trivial⟩ ?_
  refine awl_nil ?_
  refine thenQ_n ?_
  refine aw_seq ?_
  refine aw_seq ?_
  refine aw_region ?_
  refine awl_runp 3 [0, 1, 11] [11] (ob := (True ∧ True ∧ True ∧ True)) (st' := (⟨33, [(0, [], .v (.c (.p (.sl (.int .u8)) w))), (1, [], .v (.c (.p (.sl (.int .u8)) u))), (11, [], .v (.c (.own 11)))], [(11, [], .arr 22 (.sl (.int .u8)) [w, u])]⟩ : St)) (by kernel_rfl) ⟨trivial, trivial, trivial, trivial⟩ ?_
  refine awl_callk (p := []) (l := [toV1 (.sl (.sl (.int .u8))) [w, u]]) true [(.sl (.sl (.int .u8)))] [0, 1, 12] [] (fun (ret12v : Int) => (((!decide (ret12v = (0 : Int))) = true → K ((0 : Int), ret12v)) ∧ ((!decide (ret12v = (0 : Int))) = false → Loop (σ := Int × Int) (fun s X => VC36_l1 w u K s.1 s.2 X) ((0 : Int), (0 : Int))))) (fun ret12v => [toV1 (.int .i64) ret12v]) (fun ret12v => (⟨33, [(0, [], .v (.c (.p (.sl (.int .u8)) w))), (1, [], .v (.c (.p (.sl (.int .u8)) u))), (12, [], .v (.c (.p (.int .i64) ret12v)))], []⟩ : St)) (by kernel_rfl) rfl (by kernel_rfl) rfl rfl Try.call38 (by kernel_rfl) (fun ret12v => by kernel_rfl) (fun _ _ => rfl) (fun hg => link38 [w, u] _ h) (fun hg => noF hg) (fun ret12v h => ?_)
  have h : (((!decide (ret12v = (0 : Int))) = true → K ((0 : Int), ret12v)) ∧ ((!decide (ret12v = (0 : Int))) = false → Loop (σ := Int × Int) (fun s X => VC36_l1 w u K s.1 s.2 X) ((0 : Int), (0 : Int)))) := h
  refine awl_runp 1 [0, 1, 6] [] (ob := (True ∧ True)) (st' := (⟨33, [(0, [], .v (.c (.p (.sl (.int .u8)) w))), (1, [], .v (.c (.p (.sl (.int .u8)) u))), (6, [], .v (.c (.p (.int .i64) ret12v)))], []⟩ : St)) (by kernel_rfl) ⟨trivial, trivial⟩ ?_
  refine awl_nil ?_
  refine thenQ_n ?_
  refine aw_seq ?_
  refine aw_region ?_
  refine awl_runp 2 [0, 1, 6, 14] [] (ob := (True ∧ True ∧ True)) (st' := (⟨33, [(0, [], .v (.c (.p (.sl (.int .u8)) w))), (1, [], .v (.c (.p (.sl (.int .u8)) u))), (6, [], .v (.c (.p (.int .i64) ret12v))), (14, [], .v (.c (.p .bool (!decide (ret12v = (0 : Int))))))], []⟩ : St)) (by kernel_rfl) ⟨trivial, trivial, trivial⟩ ?_
  refine awl_nil ?_
  refine thenQ_n ?_
  refine aw_cond (b := (!decide (ret12v = (0 : Int)))) (by kernel_rfl) (fun hb => ?_) (fun hb => ?_)
  · have h := h.1 hb
    refine aw_seq ?_
    refine aw_region ?_
    refine awl_runp 3 [4, 5] [] (ob := (True ∧ True ∧ True ∧ True)) (st' := (⟨33, [(4, [], .v (.c (.p (.int .i64) (0 : Int)))), (5, [], .v (.c (.p (.int .i64) ret12v)))], []⟩ : St)) (by kernel_rfl) ⟨trivial, trivial, trivial, trivial⟩ ?_
    refine awl_nil ?_
    refine thenQ_n ?_
    refine aw_ret ?_
    refine thenQ_r ?_
    exact retQ_r (σ := Int × Int) (R := (fun y => [toV1 (.int .i64) y.1, toV1 (.int .i64) y.2])) ((0 : Int), ret12v) (by kernel_rfl) h
  · have h := h.2 hb
    refine aw_skip ?_
    refine thenQ_n ?_
    refine aw_seq ?_
    refine aw_region ?_
    refine awl_runp 1 [0, 1, 7] [] (ob := (True ∧ True)) (st' := (⟨33, [(0, [], .v (.c (.p (.sl (.int .u8)) w))), (1, [], .v (.c (.p (.sl (.int .u8)) u))), (7, [], .v (.c (.p (.int .i64) (0 : Int))))], []⟩ : St)) (by kernel_rfl) ⟨trivial, trivial⟩ ?_
    refine awl_nil ?_
    refine thenQ_n ?_
    refine aw_seq ?_
    refine aw_seq ?_
    refine aw_region ?_
    refine awl_runp 1 [0, 1, 7, 8] [] (ob := (True ∧ True)) (st' := (⟨33, [(0, [], .v (.c (.p (.sl (.int .u8)) w))), (1, [], .v (.c (.p (.sl (.int .u8)) u))), (7, [], .v (.c (.p (.int .i64) (0 : Int)))), (8, [], .v (.c (.p (.int .i64) (0 : Int))))], []⟩ : St)) (by kernel_rfl) ⟨trivial, trivial⟩ ?_
    refine awl_nil ?_
    refine thenQ_n ?_
    refine withJoin (σ := Int) (fun s => (⟨33, [(7, [], .v (.c (.p (.int .i64) s)))], []⟩ : St)) (fun s => VC36_k1 K s) (fun n h => ?_) (fun rest1 => ?_)
    · have h : VC36_k1 K n := h
      unfold VC36_k1 at h
      refine thenQ_n ?_
      refine aw_seq ?_
      refine aw_region ?_
      refine awl_runp 3 [4, 5] [] (ob := (True ∧ True ∧ True ∧ True)) (st' := (⟨33, [(4, [], .v (.c (.p (.int .i64) n))), (5, [], .v (.c (.p (.int .i64) (0 : Int))))], []⟩ : St)) (by kernel_rfl) ⟨trivial, trivial, trivial, trivial⟩ ?_
      refine awl_nil ?_
      refine thenQ_n ?_
      refine aw_ret ?_
      exact retQ_r (σ := Int × Int) (R := (fun y => [toV1 (.int .i64) y.1, toV1 (.int .i64) y.2])) (n, (0 : Int)) (by kernel_rfl) h
    · refine aw_block ?_
      refine aw_loop (σ := Int × Int) (fun s => (⟨33, [(0, [], .v (.c (.p (.sl (.int .u8)) w))), (1, [], .v (.c (.p (.sl (.int .u8)) u))), (7, [], .v (.c (.p (.int .i64) s.1))), (8, [], .v (.c (.p (.int .i64) s.2)))], []⟩ : St)) (fun s X => VC36_l1 w u K s.1 s.2 X) (s0 := ((0 : Int), (0 : Int))) (fun s X1 h => ?_) h
      obtain ⟨n, i⟩ := s
      have h : VC36_l1 w u K n i X1 := h
      unfold VC36_l1 at h
      refine aw_seq ?_
      refine aw_seq ?_
      refine aw_region ?_
      obtain ⟨o1, h⟩ := h
      refine awl_runp 7 [0, 1, 7, 8, 22] [] (ob := (True ∧ True ∧ True ∧ InR (i + (u.length : Int)) ∧ True ∧ True ∧ True ∧ True)) (st' := (⟨33, [(0, [], .v (.c (.p (.sl (.int .u8)) w))), (1, [], .v (.c (.p (.sl (.int .u8)) u))), (7, [], .v (.c (.p (.int .i64) n))), (8, [], .v (.c (.p (.int .i64) i))), (22, [], .v (.c (.p .bool (decide ((i + (u.length : Int)) ≤ (w.length : Int))))))], []⟩ : St)) (by kernel_rfl) ⟨trivial, trivial, trivial, o1, trivial, trivial, trivial, trivial⟩ ?_
      refine awl_nil ?_
      refine thenQ_n ?_
      refine aw_cond (b := (decide ((i + (u.length : Int)) ≤ (w.length : Int)))) (by kernel_rfl) (fun hb => ?_) (fun hb => ?_)
      · have h := h.1 hb
        refine aw_skip ?_
        refine thenQ_n ?_
        refine aw_seq ?_
        refine aw_block ?_
        refine aw_seq ?_
        refine aw_region ?_
        obtain ⟨o1, h⟩ := h
        refine awl_runp 4 [0, 1, 7, 8, 27, 28] [] (ob := (True ∧ True ∧ (0 ≤ i ∧ i ≤ (w.length : Int)) ∧ True ∧ True)) (st' := (⟨33, [(0, [], .v (.c (.p (.sl (.int .u8)) w))), (1, [], .v (.c (.p (.sl (.int .u8)) u))), (7, [], .v (.c (.p (.int .i64) n))), (8, [], .v (.c (.p (.int .i64) i))), (27, [], .v (.c (.p (.sl (.int .u8)) (w.drop (i).toNat)))), (28, [], .v (.c (.p (.sl (.int .u8)) u)))], []⟩ : St)) (by kernel_rfl) ⟨trivial, trivial, o1, trivial, trivial⟩ ?_
        refine awl_callk (p := []) (l := [toV1 (.sl (.int .u8)) (w.drop (i).toNat), toV1 (.sl (.int .u8)) u]) false [(.sl (.int .u8)), (.sl (.int .u8))] [0, 1, 7, 8, 29] [] (fun (ret29v : Bool) => ((ret29v = true → (InR (n + (1 : Int)) ∧ VC36_k2 i X1 (n + (1 : Int)))) ∧ (ret29v = false → VC36_k2 i X1 n))) (fun ret29v => [toV1 .bool ret29v]) (fun ret29v => (⟨33, [(0, [], .v (.c (.p (.sl (.int .u8)) w))), (1, [], .v (.c (.p (.sl (.int .u8)) u))), (7, [], .v (.c (.p (.int .i64) n))), (8, [], .v (.c (.p (.int .i64) i))), (29, [], .v (.c (.p .bool ret29v)))], []⟩ : St)) (by kernel_rfl) rfl (by kernel_rfl) rfl rfl Try.call46 (by kernel_rfl) (fun ret29v => by kernel_rfl) (fun e => by cases e) (fun hg => link46 (w.drop (i).toNat) u _ h) (fun hg => noF hg) (fun ret29v h => ?_)
        have h : ((ret29v = true → (InR (n + (1 : Int)) ∧ VC36_k2 i X1 (n + (1 : Int)))) ∧ (ret29v = false → VC36_k2 i X1 n)) := h
        refine awl_nil ?_
        refine thenQ_n ?_
        refine withJoin (σ := Int) (fun s => (⟨33, [(0, [], .v (.c (.p (.sl (.int .u8)) w))), (1, [], .v (.c (.p (.sl (.int .u8)) u))), (7, [], .v (.c (.p (.int .i64) s))), (8, [], .v (.c (.p (.int .i64) i)))], []⟩ : St)) (fun s => VC36_k2 i X1 s) (fun n2 h => ?_) (fun rest2 => ?_)
        · have h : VC36_k2 i X1 n2 := h
          unfold VC36_k2 at h
          refine blockQ_n ?_
          refine thenQ_n ?_
          refine aw_region ?_
          obtain ⟨o1, h⟩ := h
          refine awl_runp 3 [0, 1, 7, 8] [] (ob := (True ∧ InR (i + (1 : Int)) ∧ True ∧ True)) (st' := (⟨33, [(0, [], .v (.c (.p (.sl (.int .u8)) w))), (1, [], .v (.c (.p (.sl (.int .u8)) u))), (7, [], .v (.c (.p (.int .i64) n2))), (8, [], .v (.c (.p (.int .i64) (i + (1 : Int)))))], []⟩ : St)) (by kernel_rfl) ⟨trivial, o1, trivial, trivial⟩ ?_
          refine awl_nil ?_
          exact thenQ_n ⟨(n2, (i + (1 : Int))), rfl, h⟩
        · refine aw_cond (b := ret29v) (by kernel_rfl) (fun hb => ?_) (fun hb => ?_)
          · have h := h.1 hb
            refine aw_region ?_
            obtain ⟨o1, h⟩ := h
            refine awl_runp 3 [0, 1, 7, 8] [] (ob := (True ∧ InR (n + (1 : Int)) ∧ True ∧ True)) (st' := (⟨33, [(0, [], .v (.c (.p (.sl (.int .u8)) w))), (1, [], .v (.c (.p (.sl (.int .u8)) u))), (7, [], .v (.c (.p (.int .i64) (n + (1 : Int))))), (8, [], .v (.c (.p (.int .i64) i)))], []⟩ : St)) (by kernel_rfl) ⟨trivial, o1, trivial, trivial⟩ ?_
            refine awl_nil ?_
            exact rest2 (n + (1 : Int)) h
          · have h := h.2 hb
            refine aw_conv [.prune [0, 1, 7, 8] []] (st' := (⟨33, [(0, [], .v (.c (.p (.sl (.int .u8)) w))), (1, [], .v (.c (.p (.sl (.int .u8)) u))), (7, [], .v (.c (.p (.int .i64) n))), (8, [], .v (.c (.p (.int .i64) i)))], []⟩ : St)) (by kernel_rfl) ?_
            refine aw_skip ?_
            exact rest2 n h
      · have h := h.2 hb
        refine aw_conv [.prune [7] []] (st' := (⟨33, [(7, [], .v (.c (.p (.int .i64) n)))], []⟩ : St)) (by kernel_rfl) ?_
        refine aw_exit ?_
        refine thenQ_x ?_
        refine thenQ_x ?_
        refine blockQ_hit ?_
        exact rest1 n h

-- coppicer/border.Find
def VC37_k1 (K : (List Int) × Int → Prop) (out : (List Int)) : Prop :=
  K (out, (0 : Int))

def VC37_l1 (text : (List Int)) (K : (List Int) × Int → Prop) (v26 : Int) (out : (List Int)) (X1 : Int × (List Int) → Prop) : Prop :=
  (((decide (v26 < ((text.length : Int) + (1 : Int)))) = true → (roomN (out.length + [v26].length) ∧ (InR (v26 + (1 : Int)) ∧ X1 ((v26 + (1 : Int)), (out ++ [v26]))))) ∧ ((decide (v26 < ((text.length : Int) + (1 : Int)))) = false → VC37_k1 K out))

def VC37_k2 (K : (List Int) × Int → Prop) (out : (List Int)) : Prop :=
  K (out, (0 : Int))

def VC37_k5 (v39 : Int) (X2 : Int × Int × (List Int) → Prop) (k3 : Int) (out2 : (List Int)) : Prop :=
  (InR (v39 + (1 : Int)) ∧ X2 (k3, (v39 + (1 : Int)), out2))

def VC37_k4 (w : (List Int)) (v39 : Int) (out : (List Int)) (X2 : Int × Int × (List Int) → Prop) (k3 : Int) : Prop :=
  (((decide (k3 = (w.length : Int))) = true → (InR (v39 + (1 : Int)) ∧ InR ((v39 + (1 : Int)) - k3) ∧ roomN (out.length + [((v39 + (1 : Int)) - k3)].length) ∧ VC37_k5 v39 X2 k3 (out ++ [((v39 + (1 : Int)) - k3)]))) ∧ ((decide (k3 = (w.length : Int))) = false → VC37_k5 v39 X2 k3 out))

def VC37_k3 (w : (List Int)) (text : (List Int)) (v39 : Int) (out : (List Int)) (X2 : Int × Int × (List Int) → Prop) (k2 : Int) : Prop :=
  (inIdx k2 w.length ∧ (((decide ((w.getD (k2).toNat (0 : Int)) = (text.getD (v39).toNat (0 : Int)))) = true → (InR (k2 + (1 : Int)) ∧ VC37_k4 w v39 out X2 (k2 + (1 : Int)))) ∧ ((decide ((w.getD (k2).toNat (0 : Int)) = (text.getD (v39).toNat (0 : Int)))) = false → VC37_k4 w v39 out X2 k2)))

def VC37_l3 (w : (List Int)) (text : (List Int)) (ret36v : (List Int)) (v39 : Int) (out : (List Int)) (X2 : Int × Int × (List Int) → Prop) (k2 : Int) (X3 : Int → Prop) : Prop :=
  (((decide ((0 : Int) < k2)) = true → ((decide (k2 = (w.length : Int))) = false → inIdx k2 w.length)) ∧ ((((decide ((0 : Int) < k2)) && ((decide (k2 = (w.length : Int))) || (!decide ((w.getD (k2).toNat (0 : Int)) = (text.getD (v39).toNat (0 : Int)))))) = true → (InR (k2 - (1 : Int)) ∧ inIdx (k2 - (1 : Int)) ret36v.length ∧ X3 (ret36v.getD ((k2 - (1 : Int))).toNat (0 : Int)))) ∧ (((decide ((0 : Int) < k2)) && ((decide (k2 = (w.length : Int))) || (!decide ((w.getD (k2).toNat (0 : Int)) = (text.getD (v39).toNat (0 : Int)))))) = false → VC37_k3 w text v39 out X2 k2)))

def VC37_l2 (w : (List Int)) (text : (List Int)) (K : (List Int) × Int → Prop) (ret36v : (List Int)) (k : Int) (v39 : Int) (out : (List Int)) (X2 : Int × Int × (List Int) → Prop) : Prop :=
  (((decide (v39 < (text.length : Int))) = true → (inIdx v39 text.length ∧ Loop (σ := Int) (fun s X => VC37_l3 w text ret36v v39 out X2 s X) k)) ∧ ((decide (v39 < (text.length : Int))) = false → VC37_k2 K out))

def VC37 (w : (List Int)) (text : (List Int)) (K : (List Int) × Int → Prop) : Prop :=
  VC38 [w, text] (fun (ret16v : Int) => (((!decide (ret16v = (0 : Int))) = true → K (([] : (List Int)), ret16v)) ∧ ((!decide (ret16v = (0 : Int))) = false → (((decide ((w.length : Int) = (0 : Int))) = true → (InR ((text.length : Int) + (1 : Int)) ∧ Loop (σ := Int × (List Int)) (fun s X => VC37_l1 text K s.1 s.2 X) ((0 : Int), ([] : List Int)))) ∧ ((decide ((w.length : Int) = (0 : Int))) = false → VC42 w (fun (ret36v : (List Int)) => Loop (σ := Int × Int × (List Int)) (fun s X => VC37_l2 w text K ret36v s.1 s.2.1 s.2.2 X) ((0 : Int), (0 : Int), ([] : List Int))))))))

set_option maxHeartbeats 4000000 in
theorem link37 (w : (List Int)) (text : (List Int)) (K : (List Int) × Int → Prop) (h : VC37 w text K) : ACalls Try.prog 37 [toV1 (.sl (.int .u8)) w, toV1 (.sl (.int .u8)) text] (fun res => ∃ y, res = (fun y => [toV1 (.sl (.int .i64)) y.1, toV1 (.int .i64) y.2]) y ∧ K y) := by
  refine acalls_of_aw [(.sl (.int .i64)), (.int .i64)] [4, 5] Try.func37 rfl rfl rfl ?_
  unfold VC37 at h
  refine aw_seq ?_
  refine aw_region ?_
  refine awl_runp 2 [0, 1] [] (ob := (True ∧ True ∧ True)) (st' := (⟨86, [(0, [], .v (.c (.p (.sl (.int .u8)) w))), (1, [], .v (.c (.p (.sl (.int .u8)) text)))], []⟩ : St)) (by kernel_rfl) ⟨trivial, trivial, trivial⟩ ?_
  refine awl_nil ?_
  refine thenQ_n ?_
  refine aw_seq ?_
  refine aw_seq ?_
  refine aw_region ?_
  refine awl_runp 3 [0, 1, 15] [15] (ob := (True ∧ True ∧ True ∧ True)) (st' := (⟨86, [(0, [], .v (.c (.p (.sl (.int .u8)) w))), (1, [], .v (.c (.p (.sl (.int .u8)) text))), (15, [], .v (.c (.own 15)))], [(15, [], .arr 22 (.sl (.int .u8)) [w, text])]⟩ : St)) (by kernel_rfl) ⟨trivial, trivial, trivial, trivial⟩ ?_
  refine awl_callk (p := []) (l := [toV1 (.sl (.sl (.int .u8))) [w, text]]) true [(.sl (.sl (.int .u8)))] [0, 1, 16] [] (fun (ret16v : Int) => (((!decide (ret16v = (0 : Int))) = true → K (([] : (List Int)), ret16v)) ∧ ((!decide (ret16v = (0 : Int))) = false → (((decide ((w.length : Int) = (0 : Int))) = true → (InR ((text.length : Int) + (1 : Int)) ∧ Loop (σ := Int × (List Int)) (fun s X => VC37_l1 text K s.1 s.2 X) ((0 : Int), ([] : List Int)))) ∧ ((decide ((w.length : Int) = (0 : Int))) = false → VC42 w (fun (ret36v : (List Int)) => Loop (σ := Int × Int × (List Int)) (fun s X => VC37_l2 w text K ret36v s.1 s.2.1 s.2.2 X) ((0 : Int), (0 : Int), ([] : List Int)))))))) (fun ret16v => [toV1 (.int .i64) ret16v]) (fun ret16v => (⟨86, [(0, [], .v (.c (.p (.sl (.int .u8)) w))), (1, [], .v (.c (.p (.sl (.int .u8)) text))), (16, [], .v (.c (.p (.int .i64) ret16v)))], []⟩ : St)) (by kernel_rfl) rfl (by kernel_rfl) rfl rfl Try.call38 (by kernel_rfl) (fun ret16v => by kernel_rfl) (fun _ _ => rfl) (fun hg => link38 [w, text] _ h) (fun hg => noF hg) (fun ret16v h => ?_)
  have h : (((!decide (ret16v = (0 : Int))) = true → K (([] : (List Int)), ret16v)) ∧ ((!decide (ret16v = (0 : Int))) = false → (((decide ((w.length : Int) = (0 : Int))) = true → (InR ((text.length : Int) + (1 : Int)) ∧ Loop (σ := Int × (List Int)) (fun s X => VC37_l1 text K s.1 s.2 X) ((0 : Int), ([] : List Int)))) ∧ ((decide ((w.length : Int) = (0 : Int))) = false → VC42 w (fun (ret36v : (List Int)) => Loop (σ := Int × Int × (List Int)) (fun s X => VC37_l2 w text K ret36v s.1 s.2.1 s.2.2 X) ((0 : Int), (0 : Int), ([] : List Int))))))) := h
  refine awl_runp 1 [0, 1, 6] [] (ob := (True ∧ True)) (st' := (⟨86, [(0, [], .v (.c (.p (.sl (.int .u8)) w))), (1, [], .v (.c (.p (.sl (.int .u8)) text))), (6, [], .v (.c (.p (.int .i64) ret16v)))], []⟩ : St)) (by kernel_rfl) ⟨trivial, trivial⟩ ?_
  refine awl_nil ?_
  refine thenQ_n ?_
  refine aw_seq ?_
  refine aw_region ?_
  refine awl_runp 2 [0, 1, 6, 18] [] (ob := (True ∧ True ∧ True)) (st' := (⟨86, [(0, [], .v (.c (.p (.sl (.int .u8)) w))), (1, [], .v (.c (.p (.sl (.int .u8)) text))), (6, [], .v (.c (.p (.int .i64) ret16v))), (18, [], .v (.c (.p .bool (!decide (ret16v = (0 : Int))))))], []⟩ : St)) (by kernel_rfl) ⟨trivial, trivial, trivial⟩ ?_
  refine awl_nil ?_
  refine thenQ_n ?_
  refine aw_cond (b := (!decide (ret16v = (0 : Int)))) (by kernel_rfl) (fun hb => ?_) (fun hb => ?_)
  · have h := h.1 hb
    refine aw_seq ?_
    refine aw_region ?_
    refine awl_runp 3 [4, 5] [] (ob := (True ∧ True ∧ True ∧ True)) (st' := (⟨86, [(4, [], .v (.c (.nils))), (5, [], .v (.c (.p (.int .i64) ret16v)))], []⟩ : St)) (by kernel_rfl) ⟨trivial, trivial, trivial, trivial⟩ ?_
    refine awl_nil ?_
    refine thenQ_n ?_
    refine aw_ret ?_
    refine thenQ_r ?_
    exact retQ_r (σ := (List Int) × Int) (R := (fun y => [toV1 (.sl (.int .i64)) y.1, toV1 (.int .i64) y.2])) (([] : (List Int)), ret16v) (by kernel_rfl) h
  · have h := h.2 hb
    refine aw_skip ?_
    refine thenQ_n ?_
    refine aw_seq ?_
    refine aw_region ?_
    refine awl_runp 1 [0, 1, 7] [] (ob := (True ∧ True)) (st' := (⟨86, [(0, [], .v (.c (.p (.sl (.int .u8)) w))), (1, [], .v (.c (.p (.sl (.int .u8)) text))), (7, [], .v (.c (.nils)))], []⟩ : St)) (by kernel_rfl) ⟨trivial, trivial⟩ ?_
    refine awl_nil ?_
    refine thenQ_n ?_
    refine aw_seq ?_
    refine aw_seq ?_
    refine aw_region ?_
    refine awl_runp 3 [0, 1, 7, 22] [] (ob := (True ∧ True ∧ True ∧ True)) (st' := (⟨86, [(0, [], .v (.c (.p (.sl (.int .u8)) w))), (1, [], .v (.c (.p (.sl (.int .u8)) text))), (7, [], .v (.c (.nils))), (22, [], .v (.c (.p .bool (decide ((w.length : Int) = (0 : Int))))))], []⟩ : St)) (by kernel_rfl) ⟨trivial, trivial, trivial, trivial⟩ ?_
    refine awl_nil ?_
    refine thenQ_n ?_
    refine aw_cond (b := (decide ((w.length : Int) = (0 : Int)))) (by kernel_rfl) (fun hb => ?_) (fun hb => ?_)
    · have h := h.1 hb
      refine aw_seq ?_
      refine aw_seq ?_
      refine aw_region ?_
      obtain ⟨o1, h⟩ := h
      refine awl_runp 4 [7, 25, 26] [] (ob := (True ∧ True ∧ InR ((text.length : Int) + (1 : Int)) ∧ True ∧ True)) (st' := (⟨86, [(7, [], .v (.c (.nils))), (25, [], .v (.c (.p (.int .i64) ((text.length : Int) + (1 : Int))))), (26, [], .v (.c (.p (.int .i64) (0 : Int))))], []⟩ : St)) (by kernel_rfl) ⟨trivial, trivial, o1, trivial, trivial⟩ ?_
      refine awl_nil ?_
      refine thenQ_n ?_
      refine withJoin (σ := (List Int)) (fun s => (⟨86, [(7, [], .v (.c (.own 5007)))], [(5007, [], .arr 3 (.int .i64) s)]⟩ : St)) (fun s => VC37_k1 K s) (fun out h => ?_) (fun rest1 => ?_)
      · have h : VC37_k1 K out := h
        unfold VC37_k1 at h
        refine thenQ_n ?_
        refine aw_seq ?_
        refine aw_region ?_
        refine awl_runp 3 [4, 5] [5007] (ob := (True ∧ True ∧ True ∧ True)) (st' := (⟨86, [(4, [], .v (.c (.own 5007))), (5, [], .v (.c (.p (.int .i64) (0 : Int))))], [(5007, [], .arr 3 (.int .i64) out)]⟩ : St)) (by kernel_rfl) ⟨trivial, trivial, trivial, trivial⟩ ?_
        refine awl_nil ?_
        refine thenQ_n ?_
        refine aw_conv [.freeze 5007] (st' := (⟨86, [(4, [], .v (.c (.p (.sl (.int .i64)) out))), (5, [], .v (.c (.p (.int .i64) (0 : Int))))], []⟩ : St)) (by kernel_rfl) ?_
        refine aw_ret ?_
        refine thenQ_r ?_
        exact retQ_r (σ := (List Int) × Int) (R := (fun y => [toV1 (.sl (.int .i64)) y.1, toV1 (.int .i64) y.2])) (out, (0 : Int)) (by kernel_rfl) h
      · refine aw_block ?_
        refine aw_conv [.nilOwn 7 5007 3 (.int .i64)] (st' := (⟨86, [(7, [], .v (.c (.own 5007))), (25, [], .v (.c (.p (.int .i64) ((text.length : Int) + (1 : Int))))), (26, [], .v (.c (.p (.int .i64) (0 : Int))))], [(5007, [], .arr 3 (.int .i64) ([] : List Int))]⟩ : St)) (by kernel_rfl) ?_
        refine aw_loop (σ := Int × (List Int)) (fun s => (⟨86, [(7, [], .v (.c (.own 5007))), (25, [], .v (.c (.p (.int .i64) ((text.length : Int) + (1 : Int))))), (26, [], .v (.c (.p (.int .i64) s.1)))], [(5007, [], .arr 3 (.int .i64) s.2)]⟩ : St)) (fun s X => VC37_l1 text K s.1 s.2 X) (s0 := ((0 : Int), ([] : List Int))) (fun s X1 h => ?_) h
        obtain ⟨v26, out⟩ := s
        have h : VC37_l1 text K v26 out X1 := h
        unfold VC37_l1 at h
        refine aw_seq ?_
        refine aw_region ?_
        refine awl_runp 1 [7, 25, 26, 27] [5007] (ob := (True ∧ True)) (st' := (⟨86, [(7, [], .v (.c (.own 5007))), (25, [], .v (.c (.p (.int .i64) ((text.length : Int) + (1 : Int))))), (26, [], .v (.c (.p (.int .i64) v26))), (27, [], .v (.c (.p .bool (decide (v26 < ((text.length : Int) + (1 : Int)))))))], [(5007, [], .arr 3 (.int .i64) out)]⟩ : St)) (by kernel_rfl) ⟨trivial, trivial⟩ ?_
        refine awl_nil ?_
        refine thenQ_n ?_
        refine aw_seq ?_
        refine aw_cond (b := (decide (v26 < ((text.length : Int) + (1 : Int))))) (by kernel_rfl) (fun hb => ?_) (fun hb => ?_)
        · have h := h.1 hb
          refine aw_skip ?_
          refine thenQ_n ?_
          refine aw_seq ?_
          refine aw_block ?_
          refine aw_seq ?_
          refine aw_region ?_
          refine awl_runp 2 [7, 8, 25, 26] [5007] (ob := (True ∧ True ∧ True)) (st' := (⟨86, [(7, [], .v (.c (.own 5007))), (8, [], .v (.c (.p (.int .i64) v26))), (25, [], .v (.c (.p (.int .i64) ((text.length : Int) + (1 : Int))))), (26, [], .v (.c (.p (.int .i64) v26)))], [(5007, [], .arr 3 (.int .i64) out)]⟩ : St)) (by kernel_rfl) ⟨trivial, trivial, trivial⟩ ?_
          refine awl_nil ?_
          refine thenQ_n ?_
          refine aw_region ?_
          obtain ⟨o1, h⟩ := h
          refine awl_runp 5 [7, 25, 26] [32] (ob := (True ∧ True ∧ True ∧ roomN (out.length + [v26].length) ∧ True ∧ True)) (st' := (⟨86, [(7, [], .v (.c (.own 32))), (25, [], .v (.c (.p (.int .i64) ((text.length : Int) + (1 : Int))))), (26, [], .v (.c (.p (.int .i64) v26)))], [(32, [], .arr 3 (.int .i64) (out ++ [v26]))]⟩ : St)) (by kernel_rfl) ⟨trivial, trivial, trivial, o1, trivial, trivial⟩ ?_
          refine awl_nil ?_
          refine blockQ_n ?_
          refine thenQ_n ?_
          refine aw_region ?_
          obtain ⟨o1, h⟩ := h
          refine awl_runp 2 [7, 25, 26] [32] (ob := (InR (v26 + (1 : Int)) ∧ True ∧ True)) (st' := (⟨86, [(7, [], .v (.c (.own 32))), (25, [], .v (.c (.p (.int .i64) ((text.length : Int) + (1 : Int))))), (26, [], .v (.c (.p (.int .i64) (v26 + (1 : Int)))))], [(32, [], .arr 3 (.int .i64) (out ++ [v26]))]⟩ : St)) (by kernel_rfl) ⟨o1, trivial, trivial⟩ ?_
          refine awl_conv [.ren 32 20032, .ren 20032 5007] (st' := (⟨86, [(7, [], .v (.c (.own 5007))), (25, [], .v (.c (.p (.int .i64) ((text.length : Int) + (1 : Int))))), (26, [], .v (.c (.p (.int .i64) (v26 + (1 : Int)))))], [(5007, [], .arr 3 (.int .i64) (out ++ [v26]))]⟩ : St)) (by kernel_rfl) ?_
          refine awl_nil ?_
          exact thenQ_n ⟨((v26 + (1 : Int)), (out ++ [v26])), rfl, h⟩
        · have h := h.2 hb
          refine aw_conv [.prune [7] [5007]] (st' := (⟨86, [(7, [], .v (.c (.own 5007)))], [(5007, [], .arr 3 (.int .i64) out)]⟩ : St)) (by kernel_rfl) ?_
          refine aw_exit ?_
          refine thenQ_x ?_
          refine thenQ_x ?_
          refine blockQ_hit ?_
          exact rest1 out h
    · have h := h.2 hb
      refine aw_skip ?_
      refine thenQ_n ?_
      refine aw_seq ?_
      refine aw_region ?_
      refine awl_runp 1 [0, 1, 7, 35] [] (ob := (True ∧ True)) (st' := (⟨86, [(0, [], .v (.c (.p (.sl (.int .u8)) w))), (1, [], .v (.c (.p (.sl (.int .u8)) text))), (7, [], .v (.c (.nils))), (35, [], .v (.c (.p (.sl (.int .u8)) w)))], []⟩ : St)) (by kernel_rfl) ⟨trivial, trivial⟩ ?_
      refine awl_callk (p := []) (l := [toV1 (.sl (.int .u8)) w]) false [(.sl (.int .u8))] [0, 1, 7, 36] [] (fun (ret36v : (List Int)) => Loop (σ := Int × Int × (List Int)) (fun s X => VC37_l2 w text K ret36v s.1 s.2.1 s.2.2 X) ((0 : Int), (0 : Int), ([] : List Int))) (fun ret36v => [toV1 (.sl (.int .i64)) ret36v]) (fun ret36v => (⟨86, [(0, [], .v (.c (.p (.sl (.int .u8)) w))), (1, [], .v (.c (.p (.sl (.int .u8)) text))), (7, [], .v (.c (.nils))), (36, [], .v (.c (.p (.sl (.int .i64)) ret36v)))], []⟩ : St)) (by kernel_rfl) rfl (by kernel_rfl) rfl rfl Try.call42 (by kernel_rfl) (fun ret36v => by kernel_rfl) (fun e => by cases e) (fun hg => link42 w _ h) (fun hg => noF hg) (fun ret36v h => ?_)
      have h : Loop (σ := Int × Int × (List Int)) (fun s X => VC37_l2 w text K ret36v s.1 s.2.1 s.2.2 X) ((0 : Int), (0 : Int), ([] : List Int)) := h
      refine awl_runp 1 [0, 1, 7, 9] [] (ob := (True ∧ True)) (st' := (⟨86, [(0, [], .v (.c (.p (.sl (.int .u8)) w))), (1, [], .v (.c (.p (.sl (.int .u8)) text))), (7, [], .v (.c (.nils))), (9, [], .v (.c (.p (.sl (.int .i64)) ret36v)))], []⟩ : St)) (by kernel_rfl) ⟨trivial, trivial⟩ ?_
      refine awl_nil ?_
      refine thenQ_n ?_
      refine aw_seq ?_
      refine aw_region ?_
      refine awl_runp 1 [0, 1, 7, 9, 10] [] (ob := (True ∧ True)) (st' := (⟨86, [(0, [], .v (.c (.p (.sl (.int .u8)) w))), (1, [], .v (.c (.p (.sl (.int .u8)) text))), (7, [], .v (.c (.nils))), (9, [], .v (.c (.p (.sl (.int .i64)) ret36v))), (10, [], .v (.c (.p (.int .i64) (0 : Int))))], []⟩ : St)) (by kernel_rfl) ⟨trivial, trivial⟩ ?_
      refine awl_nil ?_
      refine thenQ_n ?_
      refine aw_seq ?_
      refine aw_seq ?_
      refine aw_region ?_
      refine awl_runp 3 [0, 7, 9, 10, 37, 38, 39] [] (ob := (True ∧ True ∧ True ∧ True)) (st' := (⟨86, [(0, [], .v (.c (.p (.sl (.int .u8)) w))), (7, [], .v (.c (.nils))), (9, [], .v (.c (.p (.sl (.int .i64)) ret36v))), (10, [], .v (.c (.p (.int .i64) (0 : Int)))), (37, [], .v (.c (.p (.sl (.int .u8)) text))), (38, [], .v (.c (.p (.int .i64) (text.length : Int)))), (39, [], .v (.c (.p (.int .i64) (0 : Int))))], []⟩ : St)) (by kernel_rfl) ⟨trivial, trivial, trivial, trivial⟩ ?_
      refine awl_nil ?_
      refine thenQ_n ?_
      refine withJoin (σ := (List Int)) (fun s => (⟨86, [(7, [], .v (.c (.own 5007)))], [(5007, [], .arr 3 (.int .i64) s)]⟩ : St)) (fun s => VC37_k2 K s) (fun out h => ?_) (fun rest2 => ?_)
      · have h : VC37_k2 K out := h
        unfold VC37_k2 at h
        refine thenQ_n ?_
        refine aw_seq ?_
        refine aw_region ?_
        refine awl_runp 3 [4, 5] [5007] (ob := (True ∧ True ∧ True ∧ True)) (st' := (⟨86, [(4, [], .v (.c (.own 5007))), (5, [], .v (.c (.p (.int .i64) (0 : Int))))], [(5007, [], .arr 3 (.int .i64) out)]⟩ : St)) (by kernel_rfl) ⟨trivial, trivial, trivial, trivial⟩ ?_
        refine awl_nil ?_
        refine thenQ_n ?_
        refine aw_conv [.freeze 5007] (st' := (⟨86, [(4, [], .v (.c (.p (.sl (.int .i64)) out))), (5, [], .v (.c (.p (.int .i64) (0 : Int))))], []⟩ : St)) (by kernel_rfl) ?_
        refine aw_ret ?_
        exact retQ_r (σ := (List Int) × Int) (R := (fun y => [toV1 (.sl (.int .i64)) y.1, toV1 (.int .i64) y.2])) (out, (0 : Int)) (by kernel_rfl) h
      · refine aw_block ?_
        refine aw_conv [.nilOwn 7 5007 3 (.int .i64), .prune [0, 7, 9, 10, 37, 38, 39] [5007]] (st' := (⟨86, [(0, [], .v (.c (.p (.sl (.int .u8)) w))), (7, [], .v (.c (.own 5007))), (9, [], .v (.c (.p (.sl (.int .i64)) ret36v))), (10, [], .v (.c (.p (.int .i64) (0 : Int)))), (37, [], .v (.c (.p (.sl (.int .u8)) text))), (38, [], .v (.c (.p (.int .i64) (text.length : Int)))), (39, [], .v (.c (.p (.int .i64) (0 : Int))))], [(5007, [], .arr 3 (.int .i64) ([] : List Int))]⟩ : St)) (by kernel_rfl) ?_
        refine aw_loop (σ := Int × Int × (List Int)) (fun s => (⟨86, [(0, [], .v (.c (.p (.sl (.int .u8)) w))), (7, [], .v (.c (.own 5007))), (9, [], .v (.c (.p (.sl (.int .i64)) ret36v))), (10, [], .v (.c (.p (.int .i64) s.1))), (37, [], .v (.c (.p (.sl (.int .u8)) text))), (38, [], .v (.c (.p (.int .i64) (text.length : Int)))), (39, [], .v (.c (.p (.int .i64) s.2.1)))], [(5007, [], .arr 3 (.int .i64) s.2.2)]⟩ : St)) (fun s X => VC37_l2 w text K ret36v s.1 s.2.1 s.2.2 X) (s0 := ((0 : Int), (0 : Int), ([] : List Int))) (fun s X2 h => ?_) h
        obtain ⟨k, v39, out⟩ := s
        have h : VC37_l2 w text K ret36v k v39 out X2 := h
        unfold VC37_l2 at h
        refine aw_seq ?_
        refine aw_region ?_
        refine awl_runp 1 [0, 7, 9, 10, 37, 38, 39, 40] [5007] (ob := (True ∧ True)) (st' := (⟨86, [(0, [], .v (.c (.p (.sl (.int .u8)) w))), (7, [], .v (.c (.own 5007))), (9, [], .v (.c (.p (.sl (.int .i64)) ret36v))), (10, [], .v (.c (.p (.int .i64) k))), (37, [], .v (.c (.p (.sl (.int .u8)) text))), (38, [], .v (.c (.p (.int .i64) (text.length : Int)))), (39, [], .v (.c (.p (.int .i64) v39))), (40, [], .v (.c (.p .bool (decide (v39 < (text.length : Int))))))], [(5007, [], .arr 3 (.int .i64) out)]⟩ : St)) (by kernel_rfl) ⟨trivial, trivial⟩ ?_
        refine awl_nil ?_
        refine thenQ_n ?_
        refine aw_seq ?_
        refine aw_cond (b := (decide (v39 < (text.length : Int)))) (by kernel_rfl) (fun hb => ?_) (fun hb => ?_)
        · have h := h.1 hb
          refine aw_skip ?_
          refine thenQ_n ?_
          refine aw_seq ?_
          refine aw_block ?_
          refine aw_seq ?_
          refine aw_region ?_
          obtain ⟨o1, h⟩ := h
          refine awl_runp 5 [0, 7, 9, 10, 11, 12, 37, 38, 39] [5007] (ob := (True ∧ inIdx v39 text.length ∧ True ∧ True ∧ True ∧ True)) (st' := (⟨86, [(0, [], .v (.c (.p (.sl (.int .u8)) w))), (7, [], .v (.c (.own 5007))), (9, [], .v (.c (.p (.sl (.int .i64)) ret36v))), (10, [], .v (.c (.p (.int .i64) k))), (11, [], .v (.c (.p (.int .i64) v39))), (12, [], .v (.c (.p (.int .u8) (text.getD (v39).toNat (0 : Int))))), (37, [], .v (.c (.p (.sl (.int .u8)) text))), (38, [], .v (.c (.p (.int .i64) (text.length : Int)))), (39, [], .v (.c (.p (.int .i64) v39)))], [(5007, [], .arr 3 (.int .i64) out)]⟩ : St)) (by kernel_rfl) ⟨trivial, o1, trivial, trivial, trivial, trivial⟩ ?_
          refine awl_nil ?_
          refine thenQ_n ?_
          refine aw_seq ?_
          refine withJoin (σ := Int) (fun s => (⟨86, [(0, [], .v (.c (.p (.sl (.int .u8)) w))), (7, [], .v (.c (.own 5007))), (9, [], .v (.c (.p (.sl (.int .i64)) ret36v))), (10, [], .v (.c (.p (.int .i64) s))), (11, [], .v (.c (.p (.int .i64) v39))), (12, [], .v (.c (.p (.int .u8) (text.getD (v39).toNat (0 : Int))))), (37, [], .v (.c (.p (.sl (.int .u8)) text))), (38, [], .v (.c (.p (.int .i64) (text.length : Int)))), (39, [], .v (.c (.p (.int .i64) v39)))], [(5007, [], .arr 3 (.int .i64) out)]⟩ : St)) (fun s => VC37_k3 w text v39 out X2 s) (fun k2 h => ?_) (fun rest5 => ?_)
          · have h : VC37_k3 w text v39 out X2 k2 := h
            unfold VC37_k3 at h
            refine thenQ_n ?_
            refine aw_seq ?_
            refine aw_seq ?_
            refine aw_region ?_
            obtain ⟨o1, h⟩ := h
            refine awl_runp 6 [0, 7, 9, 10, 11, 37, 38, 39, 70] [5007] (ob := (True ∧ True ∧ inIdx k2 w.length ∧ True ∧ True ∧ True ∧ True)) (st' := (⟨86, [(0, [], .v (.c (.p (.sl (.int .u8)) w))), (7, [], .v (.c (.own 5007))), (9, [], .v (.c (.p (.sl (.int .i64)) ret36v))), (10, [], .v (.c (.p (.int .i64) k2))), (11, [], .v (.c (.p (.int .i64) v39))), (37, [], .v (.c (.p (.sl (.int .u8)) text))), (38, [], .v (.c (.p (.int .i64) (text.length : Int)))), (39, [], .v (.c (.p (.int .i64) v39))), (70, [], .v (.c (.p .bool (decide ((w.getD (k2).toNat (0 : Int)) = (text.getD (v39).toNat (0 : Int)))))))], [(5007, [], .arr 3 (.int .i64) out)]⟩ : St)) (by kernel_rfl) ⟨trivial, trivial, o1, trivial, trivial, trivial, trivial⟩ ?_
            refine awl_nil ?_
            refine thenQ_n ?_
            refine withJoin (σ := Int) (fun s => (⟨86, [(0, [], .v (.c (.p (.sl (.int .u8)) w))), (7, [], .v (.c (.own 5007))), (9, [], .v (.c (.p (.sl (.int .i64)) ret36v))), (10, [], .v (.c (.p (.int .i64) s))), (11, [], .v (.c (.p (.int .i64) v39))), (37, [], .v (.c (.p (.sl (.int .u8)) text))), (38, [], .v (.c (.p (.int .i64) (text.length : Int)))), (39, [], .v (.c (.p (.int .i64) v39)))], [(5007, [], .arr 3 (.int .i64) out)]⟩ : St)) (fun s => VC37_k4 w v39 out X2 s) (fun k3 h => ?_) (fun rest4 => ?_)
            · have h : VC37_k4 w v39 out X2 k3 := h
              unfold VC37_k4 at h
              refine thenQ_n ?_
              refine aw_seq ?_
              refine aw_region ?_
              refine awl_runp 4 [0, 7, 9, 10, 11, 37, 38, 39, 76] [5007] (ob := (True ∧ True ∧ True ∧ True ∧ True)) (st' := (⟨86, [(0, [], .v (.c (.p (.sl (.int .u8)) w))), (7, [], .v (.c (.own 5007))), (9, [], .v (.c (.p (.sl (.int .i64)) ret36v))), (10, [], .v (.c (.p (.int .i64) k3))), (11, [], .v (.c (.p (.int .i64) v39))), (37, [], .v (.c (.p (.sl (.int .u8)) text))), (38, [], .v (.c (.p (.int .i64) (text.length : Int)))), (39, [], .v (.c (.p (.int .i64) v39))), (76, [], .v (.c (.p .bool (decide (k3 = (w.length : Int))))))], [(5007, [], .arr 3 (.int .i64) out)]⟩ : St)) (by kernel_rfl) ⟨trivial, trivial, trivial, trivial, trivial⟩ ?_
              refine awl_nil ?_
              refine thenQ_n ?_
              refine withJoin (σ := (List Int)) (fun s => (⟨86, [(0, [], .v (.c (.p (.sl (.int .u8)) w))), (7, [], .v (.c (.own 83))), (9, [], .v (.c (.p (.sl (.int .i64)) ret36v))), (10, [], .v (.c (.p (.int .i64) k3))), (37, [], .v (.c (.p (.sl (.int .u8)) text))), (38, [], .v (.c (.p (.int .i64) (text.length : Int)))), (39, [], .v (.c (.p (.int .i64) v39)))], [(83, [], .arr 3 (.int .i64) s)]⟩ : St)) (fun s => VC37_k5 v39 X2 k3 s) (fun out2 h => ?_) (fun rest3 => ?_)
              · have h : VC37_k5 v39 X2 k3 out2 := h
                unfold VC37_k5 at h
                refine blockQ_n ?_
                refine thenQ_n ?_
                refine aw_region ?_
                obtain ⟨o1, h⟩ := h
                refine awl_runp 2 [0, 7, 9, 10, 37, 38, 39] [83] (ob := (InR (v39 + (1 : Int)) ∧ True ∧ True)) (st' := (⟨86, [(0, [], .v (.c (.p (.sl (.int .u8)) w))), (7, [], .v (.c (.own 83))), (9, [], .v (.c (.p (.sl (.int .i64)) ret36v))), (10, [], .v (.c (.p (.int .i64) k3))), (37, [], .v (.c (.p (.sl (.int .u8)) text))), (38, [], .v (.c (.p (.int .i64) (text.length : Int)))), (39, [], .v (.c (.p (.int .i64) (v39 + (1 : Int)))))], [(83, [], .arr 3 (.int .i64) out2)]⟩ : St)) (by kernel_rfl) ⟨o1, trivial, trivial⟩ ?_
                refine awl_conv [.ren 83 20083, .ren 20083 5007] (st' := (⟨86, [(0, [], .v (.c (.p (.sl (.int .u8)) w))), (7, [], .v (.c (.own 5007))), (9, [], .v (.c (.p (.sl (.int .i64)) ret36v))), (10, [], .v (.c (.p (.int .i64) k3))), (37, [], .v (.c (.p (.sl (.int .u8)) text))), (38, [], .v (.c (.p (.int .i64) (text.length : Int)))), (39, [], .v (.c (.p (.int .i64) (v39 + (1 : Int)))))], [(5007, [], .arr 3 (.int .i64) out2)]⟩ : St)) (by kernel_rfl) ?_
                refine awl_nil ?_
                exact thenQ_n ⟨(k3, (v39 + (1 : Int)), out2), rfl, h⟩
              · refine aw_cond (b := (decide (k3 = (w.length : Int)))) (by kernel_rfl) (fun hb => ?_) (fun hb => ?_)
                · have h := h.1 hb
                  refine aw_region ?_
                  obtain ⟨o1, o2, o3, h⟩ := h
                  refine awl_runp 8 [0, 7, 9, 10, 37, 38, 39] [83] (ob := (True ∧ True ∧ InR (v39 + (1 : Int)) ∧ True ∧ InR ((v39 + (1 : Int)) - k3) ∧ True ∧ roomN (out.length + [((v39 + (1 : Int)) - k3)].length) ∧ True ∧ True)) (st' := (⟨86, [(0, [], .v (.c (.p (.sl (.int .u8)) w))), (7, [], .v (.c (.own 83))), (9, [], .v (.c (.p (.sl (.int .i64)) ret36v))), (10, [], .v (.c (.p (.int .i64) k3))), (37, [], .v (.c (.p (.sl (.int .u8)) text))), (38, [], .v (.c (.p (.int .i64) (text.length : Int)))), (39, [], .v (.c (.p (.int .i64) v39)))], [(83, [], .arr 3 (.int .i64) (out ++ [((v39 + (1 : Int)) - k3)]))]⟩ : St)) (by kernel_rfl) ⟨trivial, trivial, o1, trivial, o2, trivial, o3, trivial, trivial⟩ ?_
                  refine awl_nil ?_
                  exact rest3 (out ++ [((v39 + (1 : Int)) - k3)]) h
                · have h := h.2 hb
                  refine aw_conv [.prune [0, 7, 9, 10, 37, 38, 39] [5007], .ren 5007 25007, .ren 25007 83] (st' := (⟨86, [(0, [], .v (.c (.p (.sl (.int .u8)) w))), (7, [], .v (.c (.own 83))), (9, [], .v (.c (.p (.sl (.int .i64)) ret36v))), (10, [], .v (.c (.p (.int .i64) k3))), (37, [], .v (.c (.p (.sl (.int .u8)) text))), (38, [], .v (.c (.p (.int .i64) (text.length : Int)))), (39, [], .v (.c (.p (.int .i64) v39)))], [(83, [], .arr 3 (.int .i64) out)]⟩ : St)) (by kernel_rfl) ?_
                  refine aw_skip ?_
                  exact rest3 out h
            · refine aw_cond (b := (decide ((w.getD (k2).toNat (0 : Int)) = (text.getD (v39).toNat (0 : Int))))) (by kernel_rfl) (fun hb => ?_) (fun hb => ?_)
              · have h := h.1 hb
                refine aw_region ?_
                obtain ⟨o1, h⟩ := h
                refine awl_runp 3 [0, 7, 9, 10, 11, 37, 38, 39] [5007] (ob := (True ∧ InR (k2 + (1 : Int)) ∧ True ∧ True)) (st' := (⟨86, [(0, [], .v (.c (.p (.sl (.int .u8)) w))), (7, [], .v (.c (.own 5007))), (9, [], .v (.c (.p (.sl (.int .i64)) ret36v))), (10, [], .v (.c (.p (.int .i64) (k2 + (1 : Int))))), (11, [], .v (.c (.p (.int .i64) v39))), (37, [], .v (.c (.p (.sl (.int .u8)) text))), (38, [], .v (.c (.p (.int .i64) (text.length : Int)))), (39, [], .v (.c (.p (.int .i64) v39)))], [(5007, [], .arr 3 (.int .i64) out)]⟩ : St)) (by kernel_rfl) ⟨trivial, o1, trivial, trivial⟩ ?_
                refine awl_nil ?_
                exact rest4 (k2 + (1 : Int)) h
              · have h := h.2 hb
                refine aw_conv [.prune [0, 7, 9, 10, 11, 37, 38, 39] [5007]] (st' := (⟨86, [(0, [], .v (.c (.p (.sl (.int .u8)) w))), (7, [], .v (.c (.own 5007))), (9, [], .v (.c (.p (.sl (.int .i64)) ret36v))), (10, [], .v (.c (.p (.int .i64) k2))), (11, [], .v (.c (.p (.int .i64) v39))), (37, [], .v (.c (.p (.sl (.int .u8)) text))), (38, [], .v (.c (.p (.int .i64) (text.length : Int)))), (39, [], .v (.c (.p (.int .i64) v39)))], [(5007, [], .arr 3 (.int .i64) out)]⟩ : St)) (by kernel_rfl) ?_
                refine aw_skip ?_
                exact rest4 k2 h
          · refine aw_block ?_
            refine aw_loop (σ := Int) (fun s => (⟨86, [(0, [], .v (.c (.p (.sl (.int .u8)) w))), (7, [], .v (.c (.own 5007))), (9, [], .v (.c (.p (.sl (.int .i64)) ret36v))), (10, [], .v (.c (.p (.int .i64) s))), (11, [], .v (.c (.p (.int .i64) v39))), (12, [], .v (.c (.p (.int .u8) (text.getD (v39).toNat (0 : Int))))), (37, [], .v (.c (.p (.sl (.int .u8)) text))), (38, [], .v (.c (.p (.int .i64) (text.length : Int)))), (39, [], .v (.c (.p (.int .i64) v39)))], [(5007, [], .arr 3 (.int .i64) out)]⟩ : St)) (fun s X => VC37_l3 w text ret36v v39 out X2 s X) (s0 := k) (fun k2 X3 h => ?_) h
            have h : VC37_l3 w text ret36v v39 out X2 k2 X3 := h
            unfold VC37_l3 at h
            refine aw_seq ?_
            refine aw_seq ?_
            refine aw_region ?_
            obtain ⟨o1, h⟩ := h
            refine awl_runp 16 [0, 7, 9, 10, 11, 12, 37, 38, 39, 59] [5007] (ob := (True ∧ True ∧ True ∧ ((decide ((0 : Int) < k2)) = true → True) ∧ ((decide ((0 : Int) < k2)) = true → True) ∧ ((decide ((0 : Int) < k2)) = true → True) ∧ ((decide ((0 : Int) < k2)) = true → True) ∧ ((decide ((0 : Int) < k2)) = true → True) ∧ ((decide ((0 : Int) < k2)) = true → ((decide (k2 = (w.length : Int))) = false → True)) ∧ ((decide ((0 : Int) < k2)) = true → ((decide (k2 = (w.length : Int))) = false → True)) ∧ ((decide ((0 : Int) < k2)) = true → ((decide (k2 = (w.length : Int))) = false → inIdx k2 w.length)) ∧ ((decide ((0 : Int) < k2)) = true → ((decide (k2 = (w.length : Int))) = false → True)) ∧ ((decide ((0 : Int) < k2)) = true → ((decide (k2 = (w.length : Int))) = false → True)) ∧ ((decide ((0 : Int) < k2)) = true → ((decide (k2 = (w.length : Int))) = false → True)) ∧ ((decide ((0 : Int) < k2)) = true → True) ∧ True ∧ True)) (st' := (⟨86, [(0, [], .v (.c (.p (.sl (.int .u8)) w))), (7, [], .v (.c (.own 5007))), (9, [], .v (.c (.p (.sl (.int .i64)) ret36v))), (10, [], .v (.c (.p (.int .i64) k2))), (11, [], .v (.c (.p (.int .i64) v39))), (12, [], .v (.c (.p (.int .u8) (text.getD (v39).toNat (0 : Int))))), (37, [], .v (.c (.p (.sl (.int .u8)) text))), (38, [], .v (.c (.p (.int .i64) (text.length : Int)))), (39, [], .v (.c (.p (.int .i64) v39))), (59, [], .v (.c (.p .bool ((decide ((0 : Int) < k2)) && ((decide (k2 = (w.length : Int))) || (!decide ((w.getD (k2).toNat (0 : Int)) = (text.getD (v39).toNat (0 : Int)))))))))], [(5007, [], .arr 3 (.int .i64) out)]⟩ : St)) (by kernel_rfl) ⟨trivial, trivial, trivial, (fun _ => trivial), (fun _ => trivial), (fun _ => trivial), (fun _ => trivial), (fun _ => trivial), (fun _ _ => trivial), (fun _ _ => trivial), o1, (fun _ _ => trivial), (fun _ _ => trivial), (fun _ _ => trivial), (fun _ => trivial), trivial, trivial⟩ ?_
            refine awl_nil ?_
            refine thenQ_n ?_
            refine aw_cond (b := ((decide ((0 : Int) < k2)) && ((decide (k2 = (w.length : Int))) || (!decide ((w.getD (k2).toNat (0 : Int)) = (text.getD (v39).toNat (0 : Int))))))) (by kernel_rfl) (fun hb => ?_) (fun hb => ?_)
            · have h := h.1 hb
              refine aw_skip ?_
              refine thenQ_n ?_
              refine aw_block ?_
              refine aw_region ?_
              obtain ⟨o1, o2, h⟩ := h
              refine awl_runp 6 [0, 7, 9, 10, 11, 12, 37, 38, 39] [5007] (ob := (True ∧ True ∧ InR (k2 - (1 : Int)) ∧ inIdx (k2 - (1 : Int)) ret36v.length ∧ True ∧ True ∧ True)) (st' := (⟨86, [(0, [], .v (.c (.p (.sl (.int .u8)) w))), (7, [], .v (.c (.own 5007))), (9, [], .v (.c (.p (.sl (.int .i64)) ret36v))), (10, [], .v (.c (.p (.int .i64) (ret36v.getD ((k2 - (1 : Int))).toNat (0 : Int))))), (11, [], .v (.c (.p (.int .i64) v39))), (12, [], .v (.c (.p (.int .u8) (text.getD (v39).toNat (0 : Int))))), (37, [], .v (.c (.p (.sl (.int .u8)) text))), (38, [], .v (.c (.p (.int .i64) (text.length : Int)))), (39, [], .v (.c (.p (.int .i64) v39)))], [(5007, [], .arr 3 (.int .i64) out)]⟩ : St)) (by kernel_rfl) ⟨trivial, trivial, o1, o2, trivial, trivial, trivial⟩ ?_
              refine awl_nil ?_
              refine blockQ_n ?_
              exact thenQ_n ⟨(ret36v.getD ((k2 - (1 : Int))).toNat (0 : Int)), rfl, h⟩
            · have h := h.2 hb
              refine aw_conv [.prune [0, 7, 9, 10, 11, 12, 37, 38, 39] [5007]] (st' := (⟨86, [(0, [], .v (.c (.p (.sl (.int .u8)) w))), (7, [], .v (.c (.own 5007))), (9, [], .v (.c (.p (.sl (.int .i64)) ret36v))), (10, [], .v (.c (.p (.int .i64) k2))), (11, [], .v (.c (.p (.int .i64) v39))), (12, [], .v (.c (.p (.int .u8) (text.getD (v39).toNat (0 : Int))))), (37, [], .v (.c (.p (.sl (.int .u8)) text))), (38, [], .v (.c (.p (.int .i64) (text.length : Int)))), (39, [], .v (.c (.p (.int .i64) v39)))], [(5007, [], .arr 3 (.int .i64) out)]⟩ : St)) (by kernel_rfl) ?_
              refine aw_exit ?_
              refine thenQ_x ?_
              refine thenQ_x ?_
              refine blockQ_hit ?_
              exact rest5 k2 h
        · have h := h.2 hb
          refine aw_conv [.prune [7] [5007]] (st' := (⟨86, [(7, [], .v (.c (.own 5007)))], [(5007, [], .arr 3 (.int .i64) out)]⟩ : St)) (by kernel_rfl) ?_
          refine aw_exit ?_
          refine thenQ_x ?_
          refine thenQ_x ?_
          refine blockQ_hit ?_
          exact rest2 out h

-- coppicer/coppicerkeep.EndsFew
def VC14 (w : (List Int)) (u : (List Int)) (k : Int) (K : Bool → Prop) : Prop :=
  VC36 w u (fun (ret19v : Int × Int) => VC37 u w (fun (ret25v : (List Int) × Int) => VC16 [w, u] (fun (ret31v : Bool) => ((ret31v = true → K ((!decide (ret19v.2 = (0 : Int))) && (!decide (ret25v.2 = (0 : Int))))) ∧ (ret31v = false → (InR ((u.length : Int) + (1 : Int)) ∧ (0 ≤ k ∧ 0 < ((u.length : Int) + (1 : Int))) ∧ (0 ≤ (k % ((u.length : Int) + (1 : Int))) ∧ (k % ((u.length : Int) + (1 : Int))) ≤ (u.length : Int)) ∧ VC36 w (u.take ((k % ((u.length : Int) + (1 : Int)))).toNat) (fun (ret49v : Int × Int) => VC36 w ([] : (List Int)) (fun (ret54v : Int × Int) => ((((((((decide (ret19v.2 = (0 : Int))) && (decide (ret25v.2 = (0 : Int)))) && (decide (ret49v.2 = (0 : Int)))) && (decide (ret54v.2 = (0 : Int)))) && (decide (ret19v.1 = (ret25v.1.length : Int)))) && (decide (ret19v.1 ≤ ret49v.1))) = true → InR ((w.length : Int) + (1 : Int))) ∧ K (((((((decide (ret19v.2 = (0 : Int))) && (decide (ret25v.2 = (0 : Int)))) && (decide (ret49v.2 = (0 : Int)))) && (decide (ret54v.2 = (0 : Int)))) && (decide (ret19v.1 = (ret25v.1.length : Int)))) && (decide (ret19v.1 ≤ ret49v.1))) && (decide (ret54v.1 = ((w.length : Int) + (1 : Int))))))))))))))

set_option maxHeartbeats 4000000 in
theorem link14 (w : (List Int)) (u : (List Int)) (k : Int) (K : Bool → Prop) (h : VC14 w u k K) : ACalls Try.prog 14 [toV1 (.sl (.int .u8)) w, toV1 (.sl (.int .u8)) u, toV1 (.int .u8) k] (fun res => ∃ y, res = (fun y => [toV1 .bool y]) y ∧ K y) := by
  refine acalls_of_aw [.bool] [6] Try.func14 rfl rfl rfl ?_
  unfold VC14 at h
  refine aw_seq ?_
  refine aw_region ?_
  refine awl_runp 1 [0, 1, 2] [] (ob := (True ∧ True)) (st' := (⟨89, [(0, [], .v (.c (.p (.sl (.int .u8)) w))), (1, [], .v (.c (.p (.sl (.int .u8)) u))), (2, [], .v (.c (.p (.int .u8) k)))], []⟩ : St)) (by kernel_rfl) ⟨trivial, trivial⟩ ?_
  refine awl_nil ?_
  refine thenQ_n ?_
  refine aw_seq ?_
  refine aw_region ?_
  refine awl_runp 2 [0, 1, 2, 17, 18] [] (ob := (True ∧ True ∧ True)) (st' := (⟨89, [(0, [], .v (.c (.p (.sl (.int .u8)) w))), (1, [], .v (.c (.p (.sl (.int .u8)) u))), (2, [], .v (.c (.p (.int .u8) k))), (17, [], .v (.c (.p (.sl (.int .u8)) w))), (18, [], .v (.c (.p (.sl (.int .u8)) u)))], []⟩ : St)) (by kernel_rfl) ⟨trivial, trivial, trivial⟩ ?_
  refine awl_callk (p := []) (l := [toV1 (.sl (.int .u8)) w, toV1 (.sl (.int .u8)) u]) false [(.sl (.int .u8)), (.sl (.int .u8))] [0, 1, 2, 19] [] (fun (ret19v : Int × Int) => VC37 u w (fun (ret25v : (List Int) × Int) => VC16 [w, u] (fun (ret31v : Bool) => ((ret31v = true → K ((!decide (ret19v.2 = (0 : Int))) && (!decide (ret25v.2 = (0 : Int))))) ∧ (ret31v = false → (InR ((u.length : Int) + (1 : Int)) ∧ (0 ≤ k ∧ 0 < ((u.length : Int) + (1 : Int))) ∧ (0 ≤ (k % ((u.length : Int) + (1 : Int))) ∧ (k % ((u.length : Int) + (1 : Int))) ≤ (u.length : Int)) ∧ VC36 w (u.take ((k % ((u.length : Int) + (1 : Int)))).toNat) (fun (ret49v : Int × Int) => VC36 w ([] : (List Int)) (fun (ret54v : Int × Int) => ((((((((decide (ret19v.2 = (0 : Int))) && (decide (ret25v.2 = (0 : Int)))) && (decide (ret49v.2 = (0 : Int)))) && (decide (ret54v.2 = (0 : Int)))) && (decide (ret19v.1 = (ret25v.1.length : Int)))) && (decide (ret19v.1 ≤ ret49v.1))) = true → InR ((w.length : Int) + (1 : Int))) ∧ K (((((((decide (ret19v.2 = (0 : Int))) && (decide (ret25v.2 = (0 : Int)))) && (decide (ret49v.2 = (0 : Int)))) && (decide (ret54v.2 = (0 : Int)))) && (decide (ret19v.1 = (ret25v.1.length : Int)))) && (decide (ret19v.1 ≤ ret49v.1))) && (decide (ret54v.1 = ((w.length : Int) + (1 : Int)))))))))))))) (fun ret19v => [toV1 (.int .i64) ret19v.1, toV1 (.int .i64) ret19v.2]) (fun ret19v => (⟨89, [(0, [], .v (.c (.p (.sl (.int .u8)) w))), (1, [], .v (.c (.p (.sl (.int .u8)) u))), (2, [], .v (.c (.p (.int .u8) k))), (19, [], .tup [.c (.p (.int .i64) ret19v.1), .c (.p (.int .i64) ret19v.2)])], []⟩ : St)) (by kernel_rfl) rfl (by kernel_rfl) rfl rfl Try.call36 (by kernel_rfl) (fun ret19v => by kernel_rfl) (fun e => by cases e) (fun hg => link36 w u _ h) (fun hg => noF hg) (fun ret19v h => ?_)
  have h : VC37 u w (fun (ret25v : (List Int) × Int) => VC16 [w, u] (fun (ret31v : Bool) => ((ret31v = true → K ((!decide (ret19v.2 = (0 : Int))) && (!decide (ret25v.2 = (0 : Int))))) ∧ (ret31v = false → (InR ((u.length : Int) + (1 : Int)) ∧ (0 ≤ k ∧ 0 < ((u.length : Int) + (1 : Int))) ∧ (0 ≤ (k % ((u.length : Int) + (1 : Int))) ∧ (k % ((u.length : Int) + (1 : Int))) ≤ (u.length : Int)) ∧ VC36 w (u.take ((k % ((u.length : Int) + (1 : Int)))).toNat) (fun (ret49v : Int × Int) => VC36 w ([] : (List Int)) (fun (ret54v : Int × Int) => ((((((((decide (ret19v.2 = (0 : Int))) && (decide (ret25v.2 = (0 : Int)))) && (decide (ret49v.2 = (0 : Int)))) && (decide (ret54v.2 = (0 : Int)))) && (decide (ret19v.1 = (ret25v.1.length : Int)))) && (decide (ret19v.1 ≤ ret49v.1))) = true → InR ((w.length : Int) + (1 : Int))) ∧ K (((((((decide (ret19v.2 = (0 : Int))) && (decide (ret25v.2 = (0 : Int)))) && (decide (ret49v.2 = (0 : Int)))) && (decide (ret54v.2 = (0 : Int)))) && (decide (ret19v.1 = (ret25v.1.length : Int)))) && (decide (ret19v.1 ≤ ret49v.1))) && (decide (ret54v.1 = ((w.length : Int) + (1 : Int))))))))))))) := h
  refine awl_runp 5 [0, 1, 2, 7, 8] [] (ob := (True ∧ True ∧ True ∧ True ∧ True ∧ True)) (st' := (⟨89, [(0, [], .v (.c (.p (.sl (.int .u8)) w))), (1, [], .v (.c (.p (.sl (.int .u8)) u))), (2, [], .v (.c (.p (.int .u8) k))), (7, [], .v (.c (.p (.int .i64) ret19v.1))), (8, [], .v (.c (.p (.int .i64) ret19v.2)))], []⟩ : St)) (by kernel_rfl) ⟨trivial, trivial, trivial, trivial, trivial, trivial⟩ ?_
  refine awl_nil ?_
  refine thenQ_n ?_
  refine aw_seq ?_
  refine aw_region ?_
  refine awl_runp 2 [0, 1, 2, 7, 8, 23, 24] [] (ob := (True ∧ True ∧ True)) (st' := (⟨89, [(0, [], .v (.c (.p (.sl (.int .u8)) w))), (1, [], .v (.c (.p (.sl (.int .u8)) u))), (2, [], .v (.c (.p (.int .u8) k))), (7, [], .v (.c (.p (.int .i64) ret19v.1))), (8, [], .v (.c (.p (.int .i64) ret19v.2))), (23, [], .v (.c (.p (.sl (.int .u8)) u))), (24, [], .v (.c (.p (.sl (.int .u8)) w)))], []⟩ : St)) (by kernel_rfl) ⟨trivial, trivial, trivial⟩ ?_
  refine awl_callk (p := []) (l := [toV1 (.sl (.int .u8)) u, toV1 (.sl (.int .u8)) w]) false [(.sl (.int .u8)), (.sl (.int .u8))] [0, 1, 2, 7, 8, 25] [] (fun (ret25v : (List Int) × Int) => VC16 [w, u] (fun (ret31v : Bool) => ((ret31v = true → K ((!decide (ret19v.2 = (0 : Int))) && (!decide (ret25v.2 = (0 : Int))))) ∧ (ret31v = false → (InR ((u.length : Int) + (1 : Int)) ∧ (0 ≤ k ∧ 0 < ((u.length : Int) + (1 : Int))) ∧ (0 ≤ (k % ((u.length : Int) + (1 : Int))) ∧ (k % ((u.length : Int) + (1 : Int))) ≤ (u.length : Int)) ∧ VC36 w (u.take ((k % ((u.length : Int) + (1 : Int)))).toNat) (fun (ret49v : Int × Int) => VC36 w ([] : (List Int)) (fun (ret54v : Int × Int) => ((((((((decide (ret19v.2 = (0 : Int))) && (decide (ret25v.2 = (0 : Int)))) && (decide (ret49v.2 = (0 : Int)))) && (decide (ret54v.2 = (0 : Int)))) && (decide (ret19v.1 = (ret25v.1.length : Int)))) && (decide (ret19v.1 ≤ ret49v.1))) = true → InR ((w.length : Int) + (1 : Int))) ∧ K (((((((decide (ret19v.2 = (0 : Int))) && (decide (ret25v.2 = (0 : Int)))) && (decide (ret49v.2 = (0 : Int)))) && (decide (ret54v.2 = (0 : Int)))) && (decide (ret19v.1 = (ret25v.1.length : Int)))) && (decide (ret19v.1 ≤ ret49v.1))) && (decide (ret54v.1 = ((w.length : Int) + (1 : Int))))))))))))) (fun ret25v => [toV1 (.sl (.int .i64)) ret25v.1, toV1 (.int .i64) ret25v.2]) (fun ret25v => (⟨89, [(0, [], .v (.c (.p (.sl (.int .u8)) w))), (1, [], .v (.c (.p (.sl (.int .u8)) u))), (2, [], .v (.c (.p (.int .u8) k))), (7, [], .v (.c (.p (.int .i64) ret19v.1))), (8, [], .v (.c (.p (.int .i64) ret19v.2))), (25, [], .tup [.c (.p (.sl (.int .i64)) ret25v.1), .c (.p (.int .i64) ret25v.2)])], []⟩ : St)) (by kernel_rfl) rfl (by kernel_rfl) rfl rfl Try.call37 (by kernel_rfl) (fun ret25v => by kernel_rfl) (fun e => by cases e) (fun hg => link37 u w _ h) (fun hg => noF hg) (fun ret25v h => ?_)
  have h : VC16 [w, u] (fun (ret31v : Bool) => ((ret31v = true → K ((!decide (ret19v.2 = (0 : Int))) && (!decide (ret25v.2 = (0 : Int))))) ∧ (ret31v = false → (InR ((u.length : Int) + (1 : Int)) ∧ (0 ≤ k ∧ 0 < ((u.length : Int) + (1 : Int))) ∧ (0 ≤ (k % ((u.length : Int) + (1 : Int))) ∧ (k % ((u.length : Int) + (1 : Int))) ≤ (u.length : Int)) ∧ VC36 w (u.take ((k % ((u.length : Int) + (1 : Int)))).toNat) (fun (ret49v : Int × Int) => VC36 w ([] : (List Int)) (fun (ret54v : Int × Int) => ((((((((decide (ret19v.2 = (0 : Int))) && (decide (ret25v.2 = (0 : Int)))) && (decide (ret49v.2 = (0 : Int)))) && (decide (ret54v.2 = (0 : Int)))) && (decide (ret19v.1 = (ret25v.1.length : Int)))) && (decide (ret19v.1 ≤ ret49v.1))) = true → InR ((w.length : Int) + (1 : Int))) ∧ K (((((((decide (ret19v.2 = (0 : Int))) && (decide (ret25v.2 = (0 : Int)))) && (decide (ret49v.2 = (0 : Int)))) && (decide (ret54v.2 = (0 : Int)))) && (decide (ret19v.1 = (ret25v.1.length : Int)))) && (decide (ret19v.1 ≤ ret49v.1))) && (decide (ret54v.1 = ((w.length : Int) + (1 : Int)))))))))))) := h
  refine awl_runp 5 [0, 1, 2, 7, 8, 9, 10] [] (ob := (True ∧ True ∧ True ∧ True ∧ True ∧ True)) (st' := (⟨89, [(0, [], .v (.c (.p (.sl (.int .u8)) w))), (1, [], .v (.c (.p (.sl (.int .u8)) u))), (2, [], .v (.c (.p (.int .u8) k))), (7, [], .v (.c (.p (.int .i64) ret19v.1))), (8, [], .v (.c (.p (.int .i64) ret19v.2))), (9, [], .v (.c (.p (.sl (.int .i64)) ret25v.1))), (10, [], .v (.c (.p (.int .i64) ret25v.2)))], []⟩ : St)) (by kernel_rfl) ⟨trivial, trivial, trivial, trivial, trivial, trivial⟩ ?_
  refine awl_nil ?_
  refine thenQ_n ?_
  refine aw_seq ?_
  refine aw_seq ?_
  refine aw_region ?_
  refine awl_runp 3 [0, 1, 2, 7, 8, 9, 10, 30] [30] (ob := (True ∧ True ∧ True ∧ True)) (st' := (⟨89, [(0, [], .v (.c (.p (.sl (.int .u8)) w))), (1, [], .v (.c (.p (.sl (.int .u8)) u))), (2, [], .v (.c (.p (.int .u8) k))), (7, [], .v (.c (.p (.int .i64) ret19v.1))), (8, [], .v (.c (.p (.int .i64) ret19v.2))), (9, [], .v (.c (.p (.sl (.int .i64)) ret25v.1))), (10, [], .v (.c (.p (.int .i64) ret25v.2))), (30, [], .v (.c (.own 30)))], [(30, [], .arr 22 (.sl (.int .u8)) [w, u])]⟩ : St)) (by kernel_rfl) ⟨trivial, trivial, trivial, trivial⟩ ?_
  refine awl_callk (p := []) (l := [toV1 (.sl (.sl (.int .u8))) [w, u]]) true [(.sl (.sl (.int .u8)))] [0, 1, 2, 7, 8, 9, 10, 31] [] (fun (ret31v : Bool) => ((ret31v = true → K ((!decide (ret19v.2 = (0 : Int))) && (!decide (ret25v.2 = (0 : Int))))) ∧ (ret31v = false → (InR ((u.length : Int) + (1 : Int)) ∧ (0 ≤ k ∧ 0 < ((u.length : Int) + (1 : Int))) ∧ (0 ≤ (k % ((u.length : Int) + (1 : Int))) ∧ (k % ((u.length : Int) + (1 : Int))) ≤ (u.length : Int)) ∧ VC36 w (u.take ((k % ((u.length : Int) + (1 : Int)))).toNat) (fun (ret49v : Int × Int) => VC36 w ([] : (List Int)) (fun (ret54v : Int × Int) => ((((((((decide (ret19v.2 = (0 : Int))) && (decide (ret25v.2 = (0 : Int)))) && (decide (ret49v.2 = (0 : Int)))) && (decide (ret54v.2 = (0 : Int)))) && (decide (ret19v.1 = (ret25v.1.length : Int)))) && (decide (ret19v.1 ≤ ret49v.1))) = true → InR ((w.length : Int) + (1 : Int))) ∧ K (((((((decide (ret19v.2 = (0 : Int))) && (decide (ret25v.2 = (0 : Int)))) && (decide (ret49v.2 = (0 : Int)))) && (decide (ret54v.2 = (0 : Int)))) && (decide (ret19v.1 = (ret25v.1.length : Int)))) && (decide (ret19v.1 ≤ ret49v.1))) && (decide (ret54v.1 = ((w.length : Int) + (1 : Int)))))))))))) (fun ret31v => [toV1 .bool ret31v]) (fun ret31v => (⟨89, [(0, [], .v (.c (.p (.sl (.int .u8)) w))), (1, [], .v (.c (.p (.sl (.int .u8)) u))), (2, [], .v (.c (.p (.int .u8) k))), (7, [], .v (.c (.p (.int .i64) ret19v.1))), (8, [], .v (.c (.p (.int .i64) ret19v.2))), (9, [], .v (.c (.p (.sl (.int .i64)) ret25v.1))), (10, [], .v (.c (.p (.int .i64) ret25v.2))), (31, [], .v (.c (.p .bool ret31v)))], []⟩ : St)) (by kernel_rfl) rfl (by kernel_rfl) rfl rfl Try.call16 (by kernel_rfl) (fun ret31v => by kernel_rfl) (fun _ _ => rfl) (fun hg => link16 [w, u] _ h) (fun hg => noF hg) (fun ret31v h => ?_)
  have h : ((ret31v = true → K ((!decide (ret19v.2 = (0 : Int))) && (!decide (ret25v.2 = (0 : Int))))) ∧ (ret31v = false → (InR ((u.length : Int) + (1 : Int)) ∧ (0 ≤ k ∧ 0 < ((u.length : Int) + (1 : Int))) ∧ (0 ≤ (k % ((u.length : Int) + (1 : Int))) ∧ (k % ((u.length : Int) + (1 : Int))) ≤ (u.length : Int)) ∧ VC36 w (u.take ((k % ((u.length : Int) + (1 : Int)))).toNat) (fun (ret49v : Int × Int) => VC36 w ([] : (List Int)) (fun (ret54v : Int × Int) => ((((((((decide (ret19v.2 = (0 : Int))) && (decide (ret25v.2 = (0 : Int)))) && (decide (ret49v.2 = (0 : Int)))) && (decide (ret54v.2 = (0 : Int)))) && (decide (ret19v.1 = (ret25v.1.length : Int)))) && (decide (ret19v.1 ≤ ret49v.1))) = true → InR ((w.length : Int) + (1 : Int))) ∧ K (((((((decide (ret19v.2 = (0 : Int))) && (decide (ret25v.2 = (0 : Int)))) && (decide (ret49v.2 = (0 : Int)))) && (decide (ret54v.2 = (0 : Int)))) && (decide (ret19v.1 = (ret25v.1.length : Int)))) && (decide (ret19v.1 ≤ ret49v.1))) && (decide (ret54v.1 = ((w.length : Int) + (1 : Int))))))))))) := h
  refine awl_nil ?_
  refine thenQ_n ?_
  refine aw_cond (b := ret31v) (by kernel_rfl) (fun hb => ?_) (fun hb => ?_)
  · have h := h.1 hb
    refine aw_seq ?_
    refine aw_region ?_
    refine awl_runp 7 [6] [] (ob := (True ∧ True ∧ True ∧ ((!decide (ret19v.2 = (0 : Int))) = true → True) ∧ ((!decide (ret19v.2 = (0 : Int))) = true → True) ∧ True ∧ True ∧ True)) (st' := (⟨89, [(6, [], .v (.c (.p .bool ((!decide (ret19v.2 = (0 : Int))) && (!decide (ret25v.2 = (0 : Int)))))))], []⟩ : St)) (by kernel_rfl) ⟨trivial, trivial, trivial, (fun _ => trivial), (fun _ => trivial), trivial, trivial, trivial⟩ ?_
    refine awl_nil ?_
    refine thenQ_n ?_
    refine aw_ret ?_
    refine thenQ_r ?_
    exact retQ_r (σ := Bool) (R := (fun y => [toV1 .bool y])) ((!decide (ret19v.2 = (0 : Int))) && (!decide (ret25v.2 = (0 : Int)))) (by kernel_rfl) h
  · have h := h.2 hb
    refine aw_skip ?_
    refine thenQ_n ?_
    refine aw_seq ?_
    refine aw_region ?_
    obtain ⟨o1, o2, o3, h⟩ := h
    refine awl_runp 9 [0, 7, 8, 9, 10, 11] [] (ob := (True ∧ True ∧ True ∧ True ∧ True ∧ InR ((u.length : Int) + (1 : Int)) ∧ (0 ≤ k ∧ 0 < ((u.length : Int) + (1 : Int))) ∧ (0 ≤ (k % ((u.length : Int) + (1 : Int))) ∧ (k % ((u.length : Int) + (1 : Int))) ≤ (u.length : Int)) ∧ True ∧ True)) (st' := (⟨89, [(0, [], .v (.c (.p (.sl (.int .u8)) w))), (7, [], .v (.c (.p (.int .i64) ret19v.1))), (8, [], .v (.c (.p (.int .i64) ret19v.2))), (9, [], .v (.c (.p (.sl (.int .i64)) ret25v.1))), (10, [], .v (.c (.p (.int .i64) ret25v.2))), (11, [], .v (.c (.p (.sl (.int .u8)) (u.take ((k % ((u.length : Int) + (1 : Int)))).toNat))))], []⟩ : St)) (by kernel_rfl) ⟨trivial, trivial, trivial, trivial, trivial, o1, o2, o3, trivial, trivial⟩ ?_
    refine awl_nil ?_
    refine thenQ_n ?_
    refine aw_seq ?_
    refine aw_region ?_
    refine awl_runp 2 [0, 7, 8, 9, 10, 47, 48] [] (ob := (True ∧ True ∧ True)) (st' := (⟨89, [(0, [], .v (.c (.p (.sl (.int .u8)) w))), (7, [], .v (.c (.p (.int .i64) ret19v.1))), (8, [], .v (.c (.p (.int .i64) ret19v.2))), (9, [], .v (.c (.p (.sl (.int .i64)) ret25v.1))), (10, [], .v (.c (.p (.int .i64) ret25v.2))), (47, [], .v (.c (.p (.sl (.int .u8)) w))), (48, [], .v (.c (.p (.sl (.int .u8)) (u.take ((k % ((u.length : Int) + (1 : Int)))).toNat))))], []⟩ : St)) (by kernel_rfl) ⟨trivial, trivial, trivial⟩ ?_
    refine awl_callk (p := []) (l := [toV1 (.sl (.int .u8)) w, toV1 (.sl (.int .u8)) (u.take ((k % ((u.length : Int) + (1 : Int)))).toNat)]) false [(.sl (.int .u8)), (.sl (.int .u8))] [0, 7, 8, 9, 10, 49] [] (fun (ret49v : Int × Int) => VC36 w ([] : (List Int)) (fun (ret54v : Int × Int) => ((((((((decide (ret19v.2 = (0 : Int))) && (decide (ret25v.2 = (0 : Int)))) && (decide (ret49v.2 = (0 : Int)))) && (decide (ret54v.2 = (0 : Int)))) && (decide (ret19v.1 = (ret25v.1.length : Int)))) && (decide (ret19v.1 ≤ ret49v.1))) = true → InR ((w.length : Int) + (1 : Int))) ∧ K (((((((decide (ret19v.2 = (0 : Int))) && (decide (ret25v.2 = (0 : Int)))) && (decide (ret49v.2 = (0 : Int)))) && (decide (ret54v.2 = (0 : Int)))) && (decide (ret19v.1 = (ret25v.1.length : Int)))) && (decide (ret19v.1 ≤ ret49v.1))) && (decide (ret54v.1 = ((w.length : Int) + (1 : Int)))))))) (fun ret49v => [toV1 (.int .i64) ret49v.1, toV1 (.int .i64) ret49v.2]) (fun ret49v => (⟨89, [(0, [], .v (.c (.p (.sl (.int .u8)) w))), (7, [], .v (.c (.p (.int .i64) ret19v.1))), (8, [], .v (.c (.p (.int .i64) ret19v.2))), (9, [], .v (.c (.p (.sl (.int .i64)) ret25v.1))), (10, [], .v (.c (.p (.int .i64) ret25v.2))), (49, [], .tup [.c (.p (.int .i64) ret49v.1), .c (.p (.int .i64) ret49v.2)])], []⟩ : St)) (by kernel_rfl) rfl (by kernel_rfl) rfl rfl Try.call36 (by kernel_rfl) (fun ret49v => by kernel_rfl) (fun e => by cases e) (fun hg => link36 w (u.take ((k % ((u.length : Int) + (1 : Int)))).toNat) _ h) (fun hg => noF hg) (fun ret49v h => ?_)
    have h : VC36 w ([] : (List Int)) (fun (ret54v : Int × Int) => ((((((((decide (ret19v.2 = (0 : Int))) && (decide (ret25v.2 = (0 : Int)))) && (decide (ret49v.2 = (0 : Int)))) && (decide (ret54v.2 = (0 : Int)))) && (decide (ret19v.1 = (ret25v.1.length : Int)))) && (decide (ret19v.1 ≤ ret49v.1))) = true → InR ((w.length : Int) + (1 : Int))) ∧ K (((((((decide (ret19v.2 = (0 : Int))) && (decide (ret25v.2 = (0 : Int)))) && (decide (ret49v.2 = (0 : Int)))) && (decide (ret54v.2 = (0 : Int)))) && (decide (ret19v.1 = (ret25v.1.length : Int)))) && (decide (ret19v.1 ≤ ret49v.1))) && (decide (ret54v.1 = ((w.length : Int) + (1 : Int))))))) := h
    refine awl_runp 5 [0, 7, 8, 9, 10, 12, 13] [] (ob := (True ∧ True ∧ True ∧ True ∧ True ∧ True)) (st' := (⟨89, [(0, [], .v (.c (.p (.sl (.int .u8)) w))), (7, [], .v (.c (.p (.int .i64) ret19v.1))), (8, [], .v (.c (.p (.int .i64) ret19v.2))), (9, [], .v (.c (.p (.sl (.int .i64)) ret25v.1))), (10, [], .v (.c (.p (.int .i64) ret25v.2))), (12, [], .v (.c (.p (.int .i64) ret49v.1))), (13, [], .v (.c (.p (.int .i64) ret49v.2)))], []⟩ : St)) (by kernel_rfl) ⟨trivial, trivial, trivial, trivial, trivial, trivial⟩ ?_
    refine awl_nil ?_
    refine thenQ_n ?_
    refine aw_seq ?_
    refine aw_region ?_
    refine awl_runp 1 [0, 7, 8, 9, 10, 12, 13, 53] [] (ob := (True ∧ True)) (st' := (⟨89, [(0, [], .v (.c (.p (.sl (.int .u8)) w))), (7, [], .v (.c (.p (.int .i64) ret19v.1))), (8, [], .v (.c (.p (.int .i64) ret19v.2))), (9, [], .v (.c (.p (.sl (.int .i64)) ret25v.1))), (10, [], .v (.c (.p (.int .i64) ret25v.2))), (12, [], .v (.c (.p (.int .i64) ret49v.1))), (13, [], .v (.c (.p (.int .i64) ret49v.2))), (53, [], .v (.c (.p (.sl (.int .u8)) w)))], []⟩ : St)) (by kernel_rfl) ⟨trivial, trivial⟩ ?_
    refine awl_callk (p := []) (l := [toV1 (.sl (.int .u8)) w, toV1 (.sl (.int .u8)) ([] : (List Int))]) false [(.sl (.int .u8)), (.sl (.int .u8))] [0, 7, 8, 9, 10, 12, 13, 54] [] (fun (ret54v : Int × Int) => ((((((((decide (ret19v.2 = (0 : Int))) && (decide (ret25v.2 = (0 : Int)))) && (decide (ret49v.2 = (0 : Int)))) && (decide (ret54v.2 = (0 : Int)))) && (decide (ret19v.1 = (ret25v.1.length : Int)))) && (decide (ret19v.1 ≤ ret49v.1))) = true → InR ((w.length : Int) + (1 : Int))) ∧ K (((((((decide (ret19v.2 = (0 : Int))) && (decide (ret25v.2 = (0 : Int)))) && (decide (ret49v.2 = (0 : Int)))) && (decide (ret54v.2 = (0 : Int)))) && (decide (ret19v.1 = (ret25v.1.length : Int)))) && (decide (ret19v.1 ≤ ret49v.1))) && (decide (ret54v.1 = ((w.length : Int) + (1 : Int))))))) (fun ret54v => [toV1 (.int .i64) ret54v.1, toV1 (.int .i64) ret54v.2]) (fun ret54v => (⟨89, [(0, [], .v (.c (.p (.sl (.int .u8)) w))), (7, [], .v (.c (.p (.int .i64) ret19v.1))), (8, [], .v (.c (.p (.int .i64) ret19v.2))), (9, [], .v (.c (.p (.sl (.int .i64)) ret25v.1))), (10, [], .v (.c (.p (.int .i64) ret25v.2))), (12, [], .v (.c (.p (.int .i64) ret49v.1))), (13, [], .v (.c (.p (.int .i64) ret49v.2))), (54, [], .tup [.c (.p (.int .i64) ret54v.1), .c (.p (.int .i64) ret54v.2)])], []⟩ : St)) (by kernel_rfl) rfl (by kernel_rfl) rfl rfl Try.call36 (by kernel_rfl) (fun ret54v => by kernel_rfl) (fun e => by cases e) (fun hg => link36 w ([] : (List Int)) _ h) (fun hg => noF hg) (fun ret54v h => ?_)
    have h : ((((((((decide (ret19v.2 = (0 : Int))) && (decide (ret25v.2 = (0 : Int)))) && (decide (ret49v.2 = (0 : Int)))) && (decide (ret54v.2 = (0 : Int)))) && (decide (ret19v.1 = (ret25v.1.length : Int)))) && (decide (ret19v.1 ≤ ret49v.1))) = true → InR ((w.length : Int) + (1 : Int))) ∧ K (((((((decide (ret19v.2 = (0 : Int))) && (decide (ret25v.2 = (0 : Int)))) && (decide (ret49v.2 = (0 : Int)))) && (decide (ret54v.2 = (0 : Int)))) && (decide (ret19v.1 = (ret25v.1.length : Int)))) && (decide (ret19v.1 ≤ ret49v.1))) && (decide (ret54v.1 = ((w.length : Int) + (1 : Int)))))) := h
    refine awl_runp 5 [0, 7, 8, 9, 10, 12, 13, 14, 15] [] (ob := (True ∧ True ∧ True ∧ True ∧ True ∧ True)) (st' := (⟨89, [(0, [], .v (.c (.p (.sl (.int .u8)) w))), (7, [], .v (.c (.p (.int .i64) ret19v.1))), (8, [], .v (.c (.p (.int .i64) ret19v.2))), (9, [], .v (.c (.p (.sl (.int .i64)) ret25v.1))), (10, [], .v (.c (.p (.int .i64) ret25v.2))), (12, [], .v (.c (.p (.int .i64) ret49v.1))), (13, [], .v (.c (.p (.int .i64) ret49v.2))), (14, [], .v (.c (.p (.int .i64) ret54v.1))), (15, [], .v (.c (.p (.int .i64) ret54v.2)))], []⟩ : St)) (by kernel_rfl) ⟨trivial, trivial, trivial, trivial, trivial, trivial⟩ ?_
    refine awl_nil ?_
    refine thenQ_n ?_
    refine aw_seq ?_
    refine aw_region ?_
    obtain ⟨o1, h⟩ := h
    refine awl_runp 33 [6] [] (ob := (True ∧ True ∧ True ∧ ((decide (ret19v.2 = (0 : Int))) = true → True) ∧ ((decide (ret19v.2 = (0 : Int))) = true → True) ∧ True ∧ True ∧ (((decide (ret19v.2 = (0 : Int))) && (decide (ret25v.2 = (0 : Int)))) = true → True) ∧ (((decide (ret19v.2 = (0 : Int))) && (decide (ret25v.2 = (0 : Int)))) = true → True) ∧ True ∧ True ∧ ((((decide (ret19v.2 = (0 : Int))) && (decide (ret25v.2 = (0 : Int)))) && (decide (ret49v.2 = (0 : Int)))) = true → True) ∧ ((((decide (ret19v.2 = (0 : Int))) && (decide (ret25v.2 = (0 : Int)))) && (decide (ret49v.2 = (0 : Int)))) = true → True) ∧ True ∧ True ∧ (((((decide (ret19v.2 = (0 : Int))) && (decide (ret25v.2 = (0 : Int)))) && (decide (ret49v.2 = (0 : Int)))) && (decide (ret54v.2 = (0 : Int)))) = true → True) ∧ (((((decide (ret19v.2 = (0 : Int))) && (decide (ret25v.2 = (0 : Int)))) && (decide (ret49v.2 = (0 : Int)))) && (decide (ret54v.2 = (0 : Int)))) = true → True) ∧ (((((decide (ret19v.2 = (0 : Int))) && (decide (ret25v.2 = (0 : Int)))) && (decide (ret49v.2 = (0 : Int)))) && (decide (ret54v.2 = (0 : Int)))) = true → True) ∧ (((((decide (ret19v.2 = (0 : Int))) && (decide (ret25v.2 = (0 : Int)))) && (decide (ret49v.2 = (0 : Int)))) && (decide (ret54v.2 = (0 : Int)))) = true → True) ∧ True ∧ True ∧ ((((((decide (ret19v.2 = (0 : Int))) && (decide (ret25v.2 = (0 : Int)))) && (decide (ret49v.2 = (0 : Int)))) && (decide (ret54v.2 = (0 : Int)))) && (decide (ret19v.1 = (ret25v.1.length : Int)))) = true → True) ∧ ((((((decide (ret19v.2 = (0 : Int))) && (decide (ret25v.2 = (0 : Int)))) && (decide (ret49v.2 = (0 : Int)))) && (decide (ret54v.2 = (0 : Int)))) && (decide (ret19v.1 = (ret25v.1.length : Int)))) = true → True) ∧ ((((((decide (ret19v.2 = (0 : Int))) && (decide (ret25v.2 = (0 : Int)))) && (decide (ret49v.2 = (0 : Int)))) && (decide (ret54v.2 = (0 : Int)))) && (decide (ret19v.1 = (ret25v.1.length : Int)))) = true → True) ∧ True ∧ True ∧ (((((((decide (ret19v.2 = (0 : Int))) && (decide (ret25v.2 = (0 : Int)))) && (decide (ret49v.2 = (0 : Int)))) && (decide (ret54v.2 = (0 : Int)))) && (decide (ret19v.1 = (ret25v.1.length : Int)))) && (decide (ret19v.1 ≤ ret49v.1))) = true → True) ∧ (((((((decide (ret19v.2 = (0 : Int))) && (decide (ret25v.2 = (0 : Int)))) && (decide (ret49v.2 = (0 : Int)))) && (decide (ret54v.2 = (0 : Int)))) && (decide (ret19v.1 = (ret25v.1.length : Int)))) && (decide (ret19v.1 ≤ ret49v.1))) = true → True) ∧ (((((((decide (ret19v.2 = (0 : Int))) && (decide (ret25v.2 = (0 : Int)))) && (decide (ret49v.2 = (0 : Int)))) && (decide (ret54v.2 = (0 : Int)))) && (decide (ret19v.1 = (ret25v.1.length : Int)))) && (decide (ret19v.1 ≤ ret49v.1))) = true → True) ∧ (((((((decide (ret19v.2 = (0 : Int))) && (decide (ret25v.2 = (0 : Int)))) && (decide (ret49v.2 = (0 : Int)))) && (decide (ret54v.2 = (0 : Int)))) && (decide (ret19v.1 = (ret25v.1.length : Int)))) && (decide (ret19v.1 ≤ ret49v.1))) = true → InR ((w.length : Int) + (1 : Int))) ∧ (((((((decide (ret19v.2 = (0 : Int))) && (decide (ret25v.2 = (0 : Int)))) && (decide (ret49v.2 = (0 : Int)))) && (decide (ret54v.2 = (0 : Int)))) && (decide (ret19v.1 = (ret25v.1.length : Int)))) && (decide (ret19v.1 ≤ ret49v.1))) = true → True) ∧ True ∧ True ∧ True)) (st' := (⟨89, [(6, [], .v (.c (.p .bool (((((((decide (ret19v.2 = (0 : Int))) && (decide (ret25v.2 = (0 : Int)))) && (decide (ret49v.2 = (0 : Int)))) && (decide (ret54v.2 = (0 : Int)))) && (decide (ret19v.1 = (ret25v.1.length : Int)))) && (decide (ret19v.1 ≤ ret49v.1))) && (decide (ret54v.1 = ((w.length : Int) + (1 : Int))))))))], []⟩ : St)) (by kernel_rfl) ⟨trivial, trivial, trivial, (fun _ => trivial), (fun _ => trivial), trivial, trivial, (fun _ => trivial), (fun _ => trivial), trivial, trivial, (fun _ => trivial), (fun _ => trivial), trivial, trivial, (fun _ => trivial), (fun _ => trivial), (fun _ => trivial), (fun _ => trivial), trivial, trivial, (fun _ => trivial), (fun _ => trivial), (fun _ => trivial), trivial, trivial, (fun _ => trivial), (fun _ => trivial), (fun _ => trivial), o1, (fun _ => trivial), trivial, trivial, trivial⟩ ?_
    refine awl_nil ?_
    refine thenQ_n ?_
    refine aw_ret ?_
    exact retQ_r (σ := Bool) (R := (fun y => [toV1 .bool y])) (((((((decide (ret19v.2 = (0 : Int))) && (decide (ret25v.2 = (0 : Int)))) && (decide (ret49v.2 = (0 : Int)))) && (decide (ret54v.2 = (0 : Int)))) && (decide (ret19v.1 = (ret25v.1.length : Int)))) && (decide (ret19v.1 ≤ ret49v.1))) && (decide (ret54v.1 = ((w.length : Int) + (1 : Int))))) (by kernel_rfl) h

end Dec
