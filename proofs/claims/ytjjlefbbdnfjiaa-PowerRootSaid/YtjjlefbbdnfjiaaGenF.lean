/-
  Printed by dec.py: of each function its plain demand, and that the demand gives the contract.
-/
import Derived.Test.YtjjlefbbdnfjiaaGenA
import Derived.Test.YtjjlefbbdnfjiaaDecT
set_option linter.unusedVariables false
set_option linter.unusedSimpArgs false
set_option maxRecDepth 100000
namespace Dec
open Go Go.RowKit Go.Proofs

-- slices.Clone[[]byte,byte]
def VC41 (sv : (List Int)) (K : (List Int) → Prop) : Prop :=
  (∀ nil4 : Bool, (nil4 = true → sv = []) → ((nil4 = true → K ([] : (List Int))) ∧ (nil4 = false → (roomN (([] : List Int).length + sv.length) ∧ K (([] : List Int) ++ sv)))))

set_option maxHeartbeats 4000000 in
theorem link41 (sv : (List Int)) (K : (List Int) → Prop) (h : VC41 sv K) : ACalls Try.prog 41 [toV1 (.sl (.int .u8)) sv] (fun res => ∃ y, res = (fun y => [toV1 (.sl (.int .u8)) y]) y ∧ K y) := by
  refine acalls_of_aw [(.sl (.int .u8))] [2] Try.func41 rfl rfl rfl ?_
  unfold VC41 at h
  refine aw_seq ?_
  refine aw_region ?_
  refine awl_runp 1 [0] [] (ob := (True ∧ True)) (st' := (⟨8, [(0, [], .v (.c (.p (.sl (.int .u8)) sv)))], []⟩ : St)) (by kernel_rfl) ⟨trivial, trivial⟩ ?_
  refine awl_nil ?_
  refine thenQ_n ?_
  refine aw_seq ?_
  refine aw_seq ?_
  refine aw_region ?_
  refine awl_runp 1 [0, 3] [] (ob := (True ∧ True)) (st' := (⟨8, [(0, [], .v (.c (.p (.sl (.int .u8)) sv))), (3, [], .v (.c (.p (.sl (.int .u8)) sv)))], []⟩ : St)) (by kernel_rfl) ⟨trivial, trivial⟩ ?_
  refine awl_nil_eql [0, 4] [] (fun nil4 => (⟨8, [(0, [], .v (.c (.p (.sl (.int .u8)) sv))), (4, [], .v (.c (.p .bool nil4)))], []⟩ : St)) rfl rfl (by kernel_rfl) rfl (e := 5) (by kernel_rfl) (l := sv) (u := (.int .u8)) (by kernel_rfl) (fun nil4 => by kernel_rfl) (fun nil4 hnil => ?_)
  have h := h nil4 hnil
  refine awl_nil ?_
  refine thenQ_n ?_
  refine aw_cond (b := nil4) (by kernel_rfl) (fun hb => ?_) (fun hb => ?_)
  · have h := h.1 hb
    refine aw_seq ?_
    refine aw_region ?_
    refine awl_runp 1 [2] [] (ob := (True ∧ True)) (st' := (⟨8, [(2, [], .v (.c (.nils)))], []⟩ : St)) (by kernel_rfl) ⟨trivial, trivial⟩ ?_
    refine awl_nil ?_
    refine thenQ_n ?_
    refine aw_ret ?_
    refine thenQ_r ?_
    exact retQ_r (σ := (List Int)) (R := (fun y => [toV1 (.sl (.int .u8)) y])) ([] : (List Int)) (by kernel_rfl) h
  · have h := h.2 hb
    refine aw_skip ?_
    refine thenQ_n ?_
    refine aw_seq ?_
    refine aw_region ?_
    obtain ⟨o1, h⟩ := h
    refine awl_runp 4 [2] [7] (ob := (True ∧ True ∧ roomN (([] : List Int).length + sv.length) ∧ True ∧ True)) (st' := (⟨8, [(2, [], .v (.c (.own 7)))], [(7, [], .arr 5 (.int .u8) (([] : List Int) ++ sv))]⟩ : St)) (by kernel_rfl) ⟨trivial, trivial, o1, trivial, trivial⟩ ?_
    refine awl_nil ?_
    refine thenQ_n ?_
    refine aw_conv [.freeze 7] (st' := (⟨8, [(2, [], .v (.c (.p (.sl (.int .u8)) (([] : List Int) ++ sv))))], []⟩ : St)) (by kernel_rfl) ?_
    refine aw_ret ?_
    exact retQ_r (σ := (List Int)) (R := (fun y => [toV1 (.sl (.int .u8)) y])) (([] : List Int) ++ sv) (by kernel_rfl) h

-- coppicer/power.Root
def VC24_k1 (K : (List Int) × Int × Int → Prop) : Prop :=
  K (([] : (List Int)), (0 : Int), (0 : Int))

def VC24_l1 (w : (List Int)) (K : (List Int) × Int × Int → Prop) (p : Int) (X1 : Int → Prop) : Prop :=
  (((decide (p ≤ (w.length : Int))) = true → ((0 ≤ (w.length : Int) ∧ 0 < p) ∧ gcall (α := Bool) (decide (((w.length : Int) % p) = (0 : Int))) (VC39 w p) false (fun (ret27v : Bool) => ((((decide (((w.length : Int) % p) = (0 : Int))) && ret27v) = true → ((0 ≤ p ∧ p ≤ (w.length : Int)) ∧ (0 ≤ (w.length : Int) ∧ 0 < p) ∧ VC41 (w.take (p).toNat) (fun (ret32v : (List Int)) => K (ret32v, ((w.length : Int) / p), (0 : Int))))) ∧ (((decide (((w.length : Int) % p) = (0 : Int))) && ret27v) = false → (InR (p + (1 : Int)) ∧ X1 (p + (1 : Int)))))))) ∧ ((decide (p ≤ (w.length : Int))) = false → VC24_k1 K))

def VC24 (w : (List Int)) (K : (List Int) × Int × Int → Prop) : Prop :=
  VC38 [w] (fun (ret9v : Int) => (((!decide (ret9v = (0 : Int))) = true → K (([] : (List Int)), (0 : Int), ret9v)) ∧ ((!decide (ret9v = (0 : Int))) = false → Loop (σ := Int) (fun s X => VC24_l1 w K s X) (1 : Int))))

set_option maxHeartbeats 4000000 in
theorem link24 (w : (List Int)) (K : (List Int) × Int × Int → Prop) (h : VC24 w K) : ACalls Try.prog 24 [toV1 (.sl (.int .u8)) w] (fun res => ∃ y, res = (fun y => [toV1 (.sl (.int .u8)) y.1, toV1 (.int .i64) y.2.1, toV1 (.int .i64) y.2.2]) y ∧ K y) := by
  refine acalls_of_aw [(.sl (.int .u8)), (.int .i64), (.int .i64)] [2, 3, 4] Try.func24 rfl rfl rfl ?_
  unfold VC24 at h
  refine aw_seq ?_
  refine aw_region ?_
  refine awl_runp 3 [0] [] (ob := (True ∧ True ∧ True ∧ True)) (st' := (⟨37, [(0, [], .v (.c (.p (.sl (.int .u8)) w)))], []⟩ : St)) (by kernel_rfl) ⟨trivial, trivial, trivial, trivial⟩ ?_
  refine awl_nil ?_
  refine thenQ_n ?_
  refine aw_seq ?_
  refine aw_seq ?_
  refine aw_region ?_
  refine awl_runp 2 [0, 8] [8] (ob := (True ∧ True ∧ True)) (st' := (⟨37, [(0, [], .v (.c (.p (.sl (.int .u8)) w))), (8, [], .v (.c (.own 8)))], [(8, [], .arr 22 (.sl (.int .u8)) [w])]⟩ : St)) (by kernel_rfl) ⟨trivial, trivial, trivial⟩ ?_
  refine awl_callk (p := []) (l := [toV1 (.sl (.sl (.int .u8))) [w]]) true [(.sl (.sl (.int .u8)))] [0, 9] [] (fun (ret9v : Int) => (((!decide (ret9v = (0 : Int))) = true → K (([] : (List Int)), (0 : Int), ret9v)) ∧ ((!decide (ret9v = (0 : Int))) = false → Loop (σ := Int) (fun s X => VC24_l1 w K s X) (1 : Int)))) (fun ret9v => [toV1 (.int .i64) ret9v]) (fun ret9v => (⟨37, [(0, [], .v (.c (.p (.sl (.int .u8)) w))), (9, [], .v (.c (.p (.int .i64) ret9v)))], []⟩ : St)) (by kernel_rfl) rfl (by kernel_rfl) rfl rfl Try.call38 (by kernel_rfl) (fun ret9v => by kernel_rfl) (fun _ _ => rfl) (fun hg => link38 [w] _ h) (fun hg => noF hg) (fun ret9v h => ?_)
  have h : (((!decide (ret9v = (0 : Int))) = true → K (([] : (List Int)), (0 : Int), ret9v)) ∧ ((!decide (ret9v = (0 : Int))) = false → Loop (σ := Int) (fun s X => VC24_l1 w K s X) (1 : Int))) := h
  refine awl_runp 1 [0, 5] [] (ob := (True ∧ True)) (st' := (⟨37, [(0, [], .v (.c (.p (.sl (.int .u8)) w))), (5, [], .v (.c (.p (.int .i64) ret9v)))], []⟩ : St)) (by kernel_rfl) ⟨trivial, trivial⟩ ?_
  refine awl_nil ?_
  refine thenQ_n ?_
  refine aw_seq ?_
  refine aw_region ?_
  refine awl_runp 2 [0, 5, 11] [] (ob := (True ∧ True ∧ True)) (st' := (⟨37, [(0, [], .v (.c (.p (.sl (.int .u8)) w))), (5, [], .v (.c (.p (.int .i64) ret9v))), (11, [], .v (.c (.p .bool (!decide (ret9v = (0 : Int))))))], []⟩ : St)) (by kernel_rfl) ⟨trivial, trivial, trivial⟩ ?_
  refine awl_nil ?_
  refine thenQ_n ?_
  refine aw_cond (b := (!decide (ret9v = (0 : Int)))) (by kernel_rfl) (fun hb => ?_) (fun hb => ?_)
  · have h := h.1 hb
    refine aw_seq ?_
    refine aw_region ?_
    refine awl_runp 4 [2, 3, 4] [] (ob := (True ∧ True ∧ True ∧ True ∧ True)) (st' := (⟨37, [(2, [], .v (.c (.nils))), (3, [], .v (.c (.p (.int .i64) (0 : Int)))), (4, [], .v (.c (.p (.int .i64) ret9v)))], []⟩ : St)) (by kernel_rfl) ⟨trivial, trivial, trivial, trivial, trivial⟩ ?_
    refine awl_nil ?_
    refine thenQ_n ?_
    refine aw_ret ?_
    refine thenQ_r ?_
    exact retQ_r (σ := (List Int) × Int × Int) (R := (fun y => [toV1 (.sl (.int .u8)) y.1, toV1 (.int .i64) y.2.1, toV1 (.int .i64) y.2.2])) (([] : (List Int)), (0 : Int), ret9v) (by kernel_rfl) h
  · have h := h.2 hb
    refine aw_skip ?_
    refine thenQ_n ?_
    refine aw_seq ?_
    refine aw_seq ?_
    refine aw_region ?_
    refine awl_runp 1 [0, 6] [] (ob := (True ∧ True)) (st' := (⟨37, [(0, [], .v (.c (.p (.sl (.int .u8)) w))), (6, [], .v (.c (.p (.int .i64) (1 : Int))))], []⟩ : St)) (by kernel_rfl) ⟨trivial, trivial⟩ ?_
    refine awl_nil ?_
    refine thenQ_n ?_
    refine withJoin (σ := Unit) (fun s => (⟨37, [], []⟩ : St)) (fun s => VC24_k1 K) (fun s h => ?_) (fun rest1 => ?_)
    · have h : VC24_k1 K := h
      unfold VC24_k1 at h
      refine thenQ_n ?_
      refine aw_seq ?_
      refine aw_region ?_
      refine awl_runp 3 [2, 3, 4] [] (ob := (True ∧ True ∧ True ∧ True)) (st' := (⟨37, [(2, [], .v (.c (.nils))), (3, [], .v (.c (.p (.int .i64) (0 : Int)))), (4, [], .v (.c (.p (.int .i64) (0 : Int))))], []⟩ : St)) (by kernel_rfl) ⟨trivial, trivial, trivial, trivial⟩ ?_
      refine awl_nil ?_
      refine thenQ_n ?_
      refine aw_ret ?_
      exact retQ_r (σ := (List Int) × Int × Int) (R := (fun y => [toV1 (.sl (.int .u8)) y.1, toV1 (.int .i64) y.2.1, toV1 (.int .i64) y.2.2])) (([] : (List Int)), (0 : Int), (0 : Int)) (by kernel_rfl) h
    · refine aw_block ?_
      refine aw_loop (σ := Int) (fun s => (⟨37, [(0, [], .v (.c (.p (.sl (.int .u8)) w))), (6, [], .v (.c (.p (.int .i64) s)))], []⟩ : St)) (fun s X => VC24_l1 w K s X) (s0 := (1 : Int)) (fun p X1 h => ?_) h
      have h : VC24_l1 w K p X1 := h
      unfold VC24_l1 at h
      refine aw_seq ?_
      refine aw_seq ?_
      refine aw_region ?_
      refine awl_runp 4 [0, 6, 16] [] (ob := (True ∧ True ∧ True ∧ True ∧ True)) (st' := (⟨37, [(0, [], .v (.c (.p (.sl (.int .u8)) w))), (6, [], .v (.c (.p (.int .i64) p))), (16, [], .v (.c (.p .bool (decide (p ≤ (w.length : Int))))))], []⟩ : St)) (by kernel_rfl) ⟨trivial, trivial, trivial, trivial, trivial⟩ ?_
      refine awl_nil ?_
      refine thenQ_n ?_
      refine aw_cond (b := (decide (p ≤ (w.length : Int)))) (by kernel_rfl) (fun hb => ?_) (fun hb => ?_)
      · have h := h.1 hb
        refine aw_skip ?_
        refine thenQ_n ?_
        refine aw_seq ?_
        refine aw_block ?_
        refine aw_seq ?_
        refine aw_region ?_
        obtain ⟨o1, h⟩ := h
        refine awl_runp 8 [0, 6, 24, 25, 26] [] (ob := (True ∧ True ∧ True ∧ (0 ≤ (w.length : Int) ∧ 0 < p) ∧ True ∧ True ∧ ((decide (((w.length : Int) % p) = (0 : Int))) = true → True) ∧ ((decide (((w.length : Int) % p) = (0 : Int))) = true → True) ∧ True)) (st' := (⟨37, [(0, [], .v (.c (.p (.sl (.int .u8)) w))), (6, [], .v (.c (.p (.int .i64) p))), (24, [], .v (.c (.p .bool (decide (((w.length : Int) % p) = (0 : Int)))))), (25, [(24, true)], .v (.c (.p (.sl (.int .u8)) w))), (26, [(24, true)], .v (.c (.p (.int .i64) p)))], []⟩ : St)) (by kernel_rfl) ⟨trivial, trivial, trivial, o1, trivial, trivial, (fun _ => trivial), (fun _ => trivial), trivial⟩ ?_
        refine awl_callk (p := [(24, true)]) (l := [toV1 (.sl (.int .u8)) w, toV1 (.int .i64) p]) false [(.sl (.int .u8)), (.int .i64)] [0, 6, 24, 27] [] (fun (ret27v : Bool) => ((((decide (((w.length : Int) % p) = (0 : Int))) && ret27v) = true → ((0 ≤ p ∧ p ≤ (w.length : Int)) ∧ (0 ≤ (w.length : Int) ∧ 0 < p) ∧ VC41 (w.take (p).toNat) (fun (ret32v : (List Int)) => K (ret32v, ((w.length : Int) / p), (0 : Int))))) ∧ (((decide (((w.length : Int) % p) = (0 : Int))) && ret27v) = false → (InR (p + (1 : Int)) ∧ X1 (p + (1 : Int)))))) (fun ret27v => [toV1 .bool ret27v]) (fun ret27v => (⟨37, [(0, [], .v (.c (.p (.sl (.int .u8)) w))), (6, [], .v (.c (.p (.int .i64) p))), (24, [], .v (.c (.p .bool (decide (((w.length : Int) % p) = (0 : Int)))))), (27, [(24, true)], .v (.c (.p .bool ret27v)))], []⟩ : St)) (by kernel_rfl) rfl (by kernel_rfl) rfl rfl Try.call39 (by kernel_rfl) (fun ret27v => by kernel_rfl) (fun e => by cases e) (fun hg => link39 w p _ (by have := gcall_T h (show (decide (((w.length : Int) % p) = (0 : Int))) = true from hg); exact this)) (fun hg => ⟨false, by have := gcall_F h (show (decide (((w.length : Int) % p) = (0 : Int))) = false from hg); exact this⟩) (fun ret27v h => ?_)
        have h : ((((decide (((w.length : Int) % p) = (0 : Int))) && ret27v) = true → ((0 ≤ p ∧ p ≤ (w.length : Int)) ∧ (0 ≤ (w.length : Int) ∧ 0 < p) ∧ VC41 (w.take (p).toNat) (fun (ret32v : (List Int)) => K (ret32v, ((w.length : Int) / p), (0 : Int))))) ∧ (((decide (((w.length : Int) % p) = (0 : Int))) && ret27v) = false → (InR (p + (1 : Int)) ∧ X1 (p + (1 : Int))))) := h
        refine awl_runp 1 [0, 6, 28] [] (ob := (True ∧ True)) (st' := (⟨37, [(0, [], .v (.c (.p (.sl (.int .u8)) w))), (6, [], .v (.c (.p (.int .i64) p))), (28, [], .v (.c (.p .bool ((decide (((w.length : Int) % p) = (0 : Int))) && ret27v))))], []⟩ : St)) (by kernel_rfl) ⟨trivial, trivial⟩ ?_
        refine awl_nil ?_
        refine thenQ_n ?_
        refine aw_cond (b := ((decide (((w.length : Int) % p) = (0 : Int))) && ret27v)) (by kernel_rfl) (fun hb => ?_) (fun hb => ?_)
        · have h := h.1 hb
          refine aw_seq ?_
          refine awd_begin (by kernel_rfl) ?_
          obtain ⟨o1, o2, h⟩ := h
          refine awd_runp (by kernel_rfl) [0, 1, 2, 4, 5, 6, 7] [31, 36] [] (ob := (True ∧ True ∧ (0 ≤ p ∧ p ≤ (w.length : Int)) ∧ True ∧ True ∧ True ∧ (0 ≤ (w.length : Int) ∧ 0 < p) ∧ True)) (done' := [7, 6, 5, 4, 2, 1, 0]) (st' := (⟨37, [(31, [], .v (.c (.p (.sl (.int .u8)) (w.take (p).toNat)))), (36, [], .v (.c (.p (.int .i64) ((w.length : Int) / p))))], []⟩ : St)) (by kernel_rfl) ⟨trivial, trivial, o1, trivial, trivial, trivial, o2, trivial⟩ ?_
          refine awd_callk (p := []) (l := [toV1 (.sl (.int .u8)) (w.take (p).toNat)]) false [(.sl (.int .u8))] [32, 36] [] (fun (ret32v : (List Int)) => K (ret32v, ((w.length : Int) / p), (0 : Int))) (fun ret32v => [toV1 (.sl (.int .u8)) ret32v]) (fun ret32v => (⟨37, [(32, [], .v (.c (.p (.sl (.int .u8)) ret32v))), (36, [], .v (.c (.p (.int .i64) ((w.length : Int) / p))))], []⟩ : St)) (i := 3) (by kernel_rfl) rfl (by kernel_rfl) rfl (by kernel_rfl) rfl rfl Try.call41 (by kernel_rfl) (fun ret32v => by kernel_rfl) (fun e => by cases e) (fun hg => link41 (w.take (p).toNat) _ h) (fun hg => noF hg) (fun ret32v h => ?_)
          have h : K (ret32v, ((w.length : Int) / p), (0 : Int)) := h
          refine awd_runp (by kernel_rfl) [8, 9, 10] [2, 3, 4] [] (ob := (True ∧ True ∧ True ∧ True)) (done' := [10, 9, 8, 3, 7, 6, 5, 4, 2, 1, 0]) (st' := (⟨37, [(2, [], .v (.c (.p (.sl (.int .u8)) ret32v))), (3, [], .v (.c (.p (.int .i64) ((w.length : Int) / p)))), (4, [], .v (.c (.p (.int .i64) (0 : Int))))], []⟩ : St)) (by kernel_rfl) ⟨trivial, trivial, trivial, trivial⟩ ?_
          refine awd_done (by kernel_rfl) ?_
          refine thenQ_n ?_
          refine aw_ret ?_
          refine blockQ_r ?_
          refine thenQ_r ?_
          refine thenQ_r ?_
          refine blockQ_r ?_
          refine thenQ_r ?_
          exact retQ_r (σ := (List Int) × Int × Int) (R := (fun y => [toV1 (.sl (.int .u8)) y.1, toV1 (.int .i64) y.2.1, toV1 (.int .i64) y.2.2])) (ret32v, ((w.length : Int) / p), (0 : Int)) (by kernel_rfl) h
        · have h := h.2 hb
          refine aw_skip ?_
          refine blockQ_n ?_
          refine thenQ_n ?_
          refine aw_region ?_
          obtain ⟨o1, h⟩ := h
          refine awl_runp 3 [0, 6] [] (ob := (True ∧ InR (p + (1 : Int)) ∧ True ∧ True)) (st' := (⟨37, [(0, [], .v (.c (.p (.sl (.int .u8)) w))), (6, [], .v (.c (.p (.int .i64) (p + (1 : Int)))))], []⟩ : St)) (by kernel_rfl) ⟨trivial, o1, trivial, trivial⟩ ?_
          refine awl_nil ?_
          exact thenQ_n ⟨(p + (1 : Int)), rfl, h⟩
      · have h := h.2 hb
        refine aw_conv [.prune [] []] (st' := (⟨37, [], []⟩ : St)) (by kernel_rfl) ?_
        refine aw_exit ?_
        refine thenQ_x ?_
        refine thenQ_x ?_
        refine blockQ_hit ?_
        exact rest1 () h

-- coppicer/coppicerkeep.PowerRoot
def VC7_k1 (w : (List Int)) (K : Bool → Prop) (ret13v : (List Int) × Int × Int) (all : (List Int)) : Prop :=
  VC24 ret13v.1 (fun (ret52v : (List Int) × Int × Int) => gcall (α := Bool) (decide (ret52v.2.2 = (0 : Int))) (VC21 all w) false (fun (ret61v : Bool) => gcall (α := Bool) ((decide (ret52v.2.2 = (0 : Int))) && ret61v) (VC21 ret52v.1 ret13v.1) false (fun (ret66v : Bool) => K ((((decide (ret52v.2.2 = (0 : Int))) && ret61v) && ret66v) && ((decide (ret13v.2.1 = (0 : Int))) || (decide (ret52v.2.1 = (1 : Int))))))))

def VC7_l1 (w : (List Int)) (K : Bool → Prop) (ret13v : (List Int) × Int × Int) (i : Int) (all : (List Int)) (X1 : Int × (List Int) → Prop) : Prop :=
  (((decide (i < ret13v.2.1)) = true → (roomN (all.length + ret13v.1.length) ∧ (InR (i + (1 : Int)) ∧ X1 ((i + (1 : Int)), (all ++ ret13v.1))))) ∧ ((decide (i < ret13v.2.1)) = false → VC7_k1 w K ret13v all))

def VC7 (w : (List Int)) (K : Bool → Prop) : Prop :=
  VC24 w (fun (ret13v : (List Int) × Int × Int) => VC16 [w] (fun (ret19v : Bool) => ((ret19v = true → K (!decide (ret13v.2.2 = (0 : Int)))) ∧ (ret19v = false → ((((((!decide (ret13v.2.2 = (0 : Int))) || (decide (ret13v.2.1 < (0 : Int)))) || (decide ((w.length : Int) < ret13v.2.1))) || ((decide (ret13v.2.1 = (0 : Int))) != (decide ((w.length : Int) = (0 : Int))))) = true → K false) ∧ (((((!decide (ret13v.2.2 = (0 : Int))) || (decide (ret13v.2.1 < (0 : Int)))) || (decide ((w.length : Int) < ret13v.2.1))) || ((decide (ret13v.2.1 = (0 : Int))) != (decide ((w.length : Int) = (0 : Int))))) = false → Loop (σ := Int × (List Int)) (fun s X => VC7_l1 w K ret13v s.1 s.2 X) ((0 : Int), ([] : List Int))))))))

set_option maxHeartbeats 4000000 in
theorem link7 (w : (List Int)) (K : Bool → Prop) (h : VC7 w K) : ACalls Try.prog 7 [toV1 (.sl (.int .u8)) w] (fun res => ∃ y, res = (fun y => [toV1 .bool y]) y ∧ K y) := by
  refine acalls_of_aw [.bool] [2] Try.func7 rfl rfl rfl ?_
  unfold VC7 at h
  refine aw_seq ?_
  refine aw_region ?_
  refine awl_runp 1 [0] [] (ob := (True ∧ True)) (st' := (⟨76, [(0, [], .v (.c (.p (.sl (.int .u8)) w)))], []⟩ : St)) (by kernel_rfl) ⟨trivial, trivial⟩ ?_
  refine awl_nil ?_
  refine thenQ_n ?_
  refine aw_seq ?_
  refine aw_region ?_
  refine awl_runp 1 [0, 12] [] (ob := (True ∧ True)) (st' := (⟨76, [(0, [], .v (.c (.p (.sl (.int .u8)) w))), (12, [], .v (.c (.p (.sl (.int .u8)) w)))], []⟩ : St)) (by kernel_rfl) ⟨trivial, trivial⟩ ?_
  refine awl_callk (p := []) (l := [toV1 (.sl (.int .u8)) w]) false [(.sl (.int .u8))] [0, 13] [] (fun (ret13v : (List Int) × Int × Int) => VC16 [w] (fun (ret19v : Bool) => ((ret19v = true → K (!decide (ret13v.2.2 = (0 : Int)))) ∧ (ret19v = false → ((((((!decide (ret13v.2.2 = (0 : Int))) || (decide (ret13v.2.1 < (0 : Int)))) || (decide ((w.length : Int) < ret13v.2.1))) || ((decide (ret13v.2.1 = (0 : Int))) != (decide ((w.length : Int) = (0 : Int))))) = true → K false) ∧ (((((!decide (ret13v.2.2 = (0 : Int))) || (decide (ret13v.2.1 < (0 : Int)))) || (decide ((w.length : Int) < ret13v.2.1))) || ((decide (ret13v.2.1 = (0 : Int))) != (decide ((w.length : Int) = (0 : Int))))) = false → Loop (σ := Int × (List Int)) (fun s X => VC7_l1 w K ret13v s.1 s.2 X) ((0 : Int), ([] : List Int)))))))) (fun ret13v => [toV1 (.sl (.int .u8)) ret13v.1, toV1 (.int .i64) ret13v.2.1, toV1 (.int .i64) ret13v.2.2]) (fun ret13v => (⟨76, [(0, [], .v (.c (.p (.sl (.int .u8)) w))), (13, [], .tup [.c (.p (.sl (.int .u8)) ret13v.1), .c (.p (.int .i64) ret13v.2.1), .c (.p (.int .i64) ret13v.2.2)])], []⟩ : St)) (by kernel_rfl) rfl (by kernel_rfl) rfl rfl Try.call24 (by kernel_rfl) (fun ret13v => by kernel_rfl) (fun e => by cases e) (fun hg => link24 w _ h) (fun hg => noF hg) (fun ret13v h => ?_)
  have h : VC16 [w] (fun (ret19v : Bool) => ((ret19v = true → K (!decide (ret13v.2.2 = (0 : Int)))) ∧ (ret19v = false → ((((((!decide (ret13v.2.2 = (0 : Int))) || (decide (ret13v.2.1 < (0 : Int)))) || (decide ((w.length : Int) < ret13v.2.1))) || ((decide (ret13v.2.1 = (0 : Int))) != (decide ((w.length : Int) = (0 : Int))))) = true → K false) ∧ (((((!decide (ret13v.2.2 = (0 : Int))) || (decide (ret13v.2.1 < (0 : Int)))) || (decide ((w.length : Int) < ret13v.2.1))) || ((decide (ret13v.2.1 = (0 : Int))) != (decide ((w.length : Int) = (0 : Int))))) = false → Loop (σ := Int × (List Int)) (fun s X => VC7_l1 w K ret13v s.1 s.2 X) ((0 : Int), ([] : List Int))))))) := h
  refine awl_runp 7 [0, 3, 4, 5] [] (ob := (True ∧ True ∧ True ∧ True ∧ True ∧ True ∧ True ∧ True)) (st' := (⟨76, [(0, [], .v (.c (.p (.sl (.int .u8)) w))), (3, [], .v (.c (.p (.sl (.int .u8)) ret13v.1))), (4, [], .v (.c (.p (.int .i64) ret13v.2.1))), (5, [], .v (.c (.p (.int .i64) ret13v.2.2)))], []⟩ : St)) (by kernel_rfl) ⟨trivial, trivial, trivial, trivial, trivial, trivial, trivial, trivial⟩ ?_
  refine awl_nil ?_
  refine thenQ_n ?_
  refine aw_seq ?_
  refine aw_seq ?_
  refine aw_region ?_
  refine awl_runp 2 [0, 3, 4, 5, 18] [18] (ob := (True ∧ True ∧ True)) (st' := (⟨76, [(0, [], .v (.c (.p (.sl (.int .u8)) w))), (3, [], .v (.c (.p (.sl (.int .u8)) ret13v.1))), (4, [], .v (.c (.p (.int .i64) ret13v.2.1))), (5, [], .v (.c (.p (.int .i64) ret13v.2.2))), (18, [], .v (.c (.own 18)))], [(18, [], .arr 22 (.sl (.int .u8)) [w])]⟩ : St)) (by kernel_rfl) ⟨trivial, trivial, trivial⟩ ?_
  refine awl_callk (p := []) (l := [toV1 (.sl (.sl (.int .u8))) [w]]) true [(.sl (.sl (.int .u8)))] [0, 3, 4, 5, 19] [] (fun (ret19v : Bool) => ((ret19v = true → K (!decide (ret13v.2.2 = (0 : Int)))) ∧ (ret19v = false → ((((((!decide (ret13v.2.2 = (0 : Int))) || (decide (ret13v.2.1 < (0 : Int)))) || (decide ((w.length : Int) < ret13v.2.1))) || ((decide (ret13v.2.1 = (0 : Int))) != (decide ((w.length : Int) = (0 : Int))))) = true → K false) ∧ (((((!decide (ret13v.2.2 = (0 : Int))) || (decide (ret13v.2.1 < (0 : Int)))) || (decide ((w.length : Int) < ret13v.2.1))) || ((decide (ret13v.2.1 = (0 : Int))) != (decide ((w.length : Int) = (0 : Int))))) = false → Loop (σ := Int × (List Int)) (fun s X => VC7_l1 w K ret13v s.1 s.2 X) ((0 : Int), ([] : List Int))))))) (fun ret19v => [toV1 .bool ret19v]) (fun ret19v => (⟨76, [(0, [], .v (.c (.p (.sl (.int .u8)) w))), (3, [], .v (.c (.p (.sl (.int .u8)) ret13v.1))), (4, [], .v (.c (.p (.int .i64) ret13v.2.1))), (5, [], .v (.c (.p (.int .i64) ret13v.2.2))), (19, [], .v (.c (.p .bool ret19v)))], []⟩ : St)) (by kernel_rfl) rfl (by kernel_rfl) rfl rfl Try.call16 (by kernel_rfl) (fun ret19v => by kernel_rfl) (fun _ _ => rfl) (fun hg => link16 [w] _ h) (fun hg => noF hg) (fun ret19v h => ?_)
  have h : ((ret19v = true → K (!decide (ret13v.2.2 = (0 : Int)))) ∧ (ret19v = false → ((((((!decide (ret13v.2.2 = (0 : Int))) || (decide (ret13v.2.1 < (0 : Int)))) || (decide ((w.length : Int) < ret13v.2.1))) || ((decide (ret13v.2.1 = (0 : Int))) != (decide ((w.length : Int) = (0 : Int))))) = true → K false) ∧ (((((!decide (ret13v.2.2 = (0 : Int))) || (decide (ret13v.2.1 < (0 : Int)))) || (decide ((w.length : Int) < ret13v.2.1))) || ((decide (ret13v.2.1 = (0 : Int))) != (decide ((w.length : Int) = (0 : Int))))) = false → Loop (σ := Int × (List Int)) (fun s X => VC7_l1 w K ret13v s.1 s.2 X) ((0 : Int), ([] : List Int)))))) := h
  refine awl_nil ?_
  refine thenQ_n ?_
  refine aw_cond (b := ret19v) (by kernel_rfl) (fun hb => ?_) (fun hb => ?_)
  · have h := h.1 hb
    refine aw_seq ?_
    refine aw_region ?_
    refine awl_runp 3 [2] [] (ob := (True ∧ True ∧ True ∧ True)) (st' := (⟨76, [(2, [], .v (.c (.p .bool (!decide (ret13v.2.2 = (0 : Int))))))], []⟩ : St)) (by kernel_rfl) ⟨trivial, trivial, trivial, trivial⟩ ?_
    refine awl_nil ?_
    refine thenQ_n ?_
    refine aw_ret ?_
    refine thenQ_r ?_
    exact retQ_r (σ := Bool) (R := (fun y => [toV1 .bool y])) (!decide (ret13v.2.2 = (0 : Int))) (by kernel_rfl) h
  · have h := h.2 hb
    refine aw_skip ?_
    refine thenQ_n ?_
    refine aw_seq ?_
    refine aw_seq ?_
    refine aw_region ?_
    refine awl_runp 20 [0, 3, 4, 41] [] (ob := (True ∧ True ∧ True ∧ ((!decide (ret13v.2.2 = (0 : Int))) = false → True) ∧ ((!decide (ret13v.2.2 = (0 : Int))) = false → True) ∧ True ∧ True ∧ (((!decide (ret13v.2.2 = (0 : Int))) || (decide (ret13v.2.1 < (0 : Int)))) = false → True) ∧ (((!decide (ret13v.2.2 = (0 : Int))) || (decide (ret13v.2.1 < (0 : Int)))) = false → True) ∧ (((!decide (ret13v.2.2 = (0 : Int))) || (decide (ret13v.2.1 < (0 : Int)))) = false → True) ∧ (((!decide (ret13v.2.2 = (0 : Int))) || (decide (ret13v.2.1 < (0 : Int)))) = false → True) ∧ True ∧ True ∧ ((((!decide (ret13v.2.2 = (0 : Int))) || (decide (ret13v.2.1 < (0 : Int)))) || (decide ((w.length : Int) < ret13v.2.1))) = false → True) ∧ ((((!decide (ret13v.2.2 = (0 : Int))) || (decide (ret13v.2.1 < (0 : Int)))) || (decide ((w.length : Int) < ret13v.2.1))) = false → True) ∧ ((((!decide (ret13v.2.2 = (0 : Int))) || (decide (ret13v.2.1 < (0 : Int)))) || (decide ((w.length : Int) < ret13v.2.1))) = false → True) ∧ ((((!decide (ret13v.2.2 = (0 : Int))) || (decide (ret13v.2.1 < (0 : Int)))) || (decide ((w.length : Int) < ret13v.2.1))) = false → True) ∧ ((((!decide (ret13v.2.2 = (0 : Int))) || (decide (ret13v.2.1 < (0 : Int)))) || (decide ((w.length : Int) < ret13v.2.1))) = false → True) ∧ ((((!decide (ret13v.2.2 = (0 : Int))) || (decide (ret13v.2.1 < (0 : Int)))) || (decide ((w.length : Int) < ret13v.2.1))) = false → True) ∧ True ∧ True)) (st' := (⟨76, [(0, [], .v (.c (.p (.sl (.int .u8)) w))), (3, [], .v (.c (.p (.sl (.int .u8)) ret13v.1))), (4, [], .v (.c (.p (.int .i64) ret13v.2.1))), (41, [], .v (.c (.p .bool ((((!decide (ret13v.2.2 = (0 : Int))) || (decide (ret13v.2.1 < (0 : Int)))) || (decide ((w.length : Int) < ret13v.2.1))) || ((decide (ret13v.2.1 = (0 : Int))) != (decide ((w.length : Int) = (0 : Int))))))))], []⟩ : St)) (by kernel_rfl) ⟨trivial, trivial, trivial, (fun _ => trivial), (fun _ => trivial), trivial, trivial, (fun _ => trivial), (fun _ => trivial), (fun _ => trivial), (fun _ => trivial), trivial, trivial, (fun _ => trivial), (fun _ => trivial), (fun _ => trivial), (fun _ => trivial), (fun _ => trivial), (fun _ => trivial), trivial, trivial⟩ ?_
    refine awl_nil ?_
    refine thenQ_n ?_
    refine aw_cond (b := ((((!decide (ret13v.2.2 = (0 : Int))) || (decide (ret13v.2.1 < (0 : Int)))) || (decide ((w.length : Int) < ret13v.2.1))) || ((decide (ret13v.2.1 = (0 : Int))) != (decide ((w.length : Int) = (0 : Int)))))) (by kernel_rfl) (fun hb => ?_) (fun hb => ?_)
    · have h := h.1 hb
      refine aw_seq ?_
      refine aw_region ?_
      refine awl_runp 1 [2] [] (ob := (True ∧ True)) (st' := (⟨76, [(2, [], .v (.c (.p .bool false)))], []⟩ : St)) (by kernel_rfl) ⟨trivial, trivial⟩ ?_
      refine awl_nil ?_
      refine thenQ_n ?_
      refine aw_ret ?_
      refine thenQ_r ?_
      exact retQ_r (σ := Bool) (R := (fun y => [toV1 .bool y])) false (by kernel_rfl) h
    · have h := h.2 hb
      refine aw_skip ?_
      refine thenQ_n ?_
      refine aw_seq ?_
      refine aw_region ?_
      refine awl_runp 1 [0, 3, 4, 6] [] (ob := (True ∧ True)) (st' := (⟨76, [(0, [], .v (.c (.p (.sl (.int .u8)) w))), (3, [], .v (.c (.p (.sl (.int .u8)) ret13v.1))), (4, [], .v (.c (.p (.int .i64) ret13v.2.1))), (6, [], .v (.c (.nils)))], []⟩ : St)) (by kernel_rfl) ⟨trivial, trivial⟩ ?_
      refine awl_nil ?_
      refine thenQ_n ?_
      refine aw_seq ?_
      refine aw_seq ?_
      refine aw_region ?_
      refine awl_runp 1 [0, 3, 4, 6, 7] [] (ob := (True ∧ True)) (st' := (⟨76, [(0, [], .v (.c (.p (.sl (.int .u8)) w))), (3, [], .v (.c (.p (.sl (.int .u8)) ret13v.1))), (4, [], .v (.c (.p (.int .i64) ret13v.2.1))), (6, [], .v (.c (.nils))), (7, [], .v (.c (.p (.int .i64) (0 : Int))))], []⟩ : St)) (by kernel_rfl) ⟨trivial, trivial⟩ ?_
      refine awl_nil ?_
      refine thenQ_n ?_
      refine withJoin (σ := (List Int)) (fun s => (⟨76, [(0, [], .v (.c (.p (.sl (.int .u8)) w))), (3, [], .v (.c (.p (.sl (.int .u8)) ret13v.1))), (4, [], .v (.c (.p (.int .i64) ret13v.2.1))), (6, [], .v (.c (.own 5006)))], [(5006, [], .arr 5 (.int .u8) s)]⟩ : St)) (fun s => VC7_k1 w K ret13v s) (fun all h => ?_) (fun rest1 => ?_)
      · have h : VC7_k1 w K ret13v all := h
        unfold VC7_k1 at h
        refine thenQ_n ?_
        refine aw_seq ?_
        refine aw_region ?_
        refine awl_runp 1 [0, 3, 4, 6, 51] [5006] (ob := (True ∧ True)) (st' := (⟨76, [(0, [], .v (.c (.p (.sl (.int .u8)) w))), (3, [], .v (.c (.p (.sl (.int .u8)) ret13v.1))), (4, [], .v (.c (.p (.int .i64) ret13v.2.1))), (6, [], .v (.c (.own 5006))), (51, [], .v (.c (.p (.sl (.int .u8)) ret13v.1)))], [(5006, [], .arr 5 (.int .u8) all)]⟩ : St)) (by kernel_rfl) ⟨trivial, trivial⟩ ?_
        refine awl_callk (p := []) (l := [toV1 (.sl (.int .u8)) ret13v.1]) false [(.sl (.int .u8))] [0, 3, 4, 6, 52] [5006] (fun (ret52v : (List Int) × Int × Int) => gcall (α := Bool) (decide (ret52v.2.2 = (0 : Int))) (VC21 all w) false (fun (ret61v : Bool) => gcall (α := Bool) ((decide (ret52v.2.2 = (0 : Int))) && ret61v) (VC21 ret52v.1 ret13v.1) false (fun (ret66v : Bool) => K ((((decide (ret52v.2.2 = (0 : Int))) && ret61v) && ret66v) && ((decide (ret13v.2.1 = (0 : Int))) || (decide (ret52v.2.1 = (1 : Int)))))))) (fun ret52v => [toV1 (.sl (.int .u8)) ret52v.1, toV1 (.int .i64) ret52v.2.1, toV1 (.int .i64) ret52v.2.2]) (fun ret52v => (⟨76, [(0, [], .v (.c (.p (.sl (.int .u8)) w))), (3, [], .v (.c (.p (.sl (.int .u8)) ret13v.1))), (4, [], .v (.c (.p (.int .i64) ret13v.2.1))), (6, [], .v (.c (.own 5006))), (52, [], .tup [.c (.p (.sl (.int .u8)) ret52v.1), .c (.p (.int .i64) ret52v.2.1), .c (.p (.int .i64) ret52v.2.2)])], [(5006, [], .arr 5 (.int .u8) all)]⟩ : St)) (by kernel_rfl) rfl (by kernel_rfl) rfl rfl Try.call24 (by kernel_rfl) (fun ret52v => by kernel_rfl) (fun e => by cases e) (fun hg => link24 ret13v.1 _ h) (fun hg => noF hg) (fun ret52v h => ?_)
        have h : gcall (α := Bool) (decide (ret52v.2.2 = (0 : Int))) (VC21 all w) false (fun (ret61v : Bool) => gcall (α := Bool) ((decide (ret52v.2.2 = (0 : Int))) && ret61v) (VC21 ret52v.1 ret13v.1) false (fun (ret66v : Bool) => K ((((decide (ret52v.2.2 = (0 : Int))) && ret61v) && ret66v) && ((decide (ret13v.2.1 = (0 : Int))) || (decide (ret52v.2.1 = (1 : Int))))))) := h
        refine awl_runp 7 [0, 3, 4, 6, 8, 9, 10] [5006] (ob := (True ∧ True ∧ True ∧ True ∧ True ∧ True ∧ True ∧ True)) (st' := (⟨76, [(0, [], .v (.c (.p (.sl (.int .u8)) w))), (3, [], .v (.c (.p (.sl (.int .u8)) ret13v.1))), (4, [], .v (.c (.p (.int .i64) ret13v.2.1))), (6, [], .v (.c (.own 5006))), (8, [], .v (.c (.p (.sl (.int .u8)) ret52v.1))), (9, [], .v (.c (.p (.int .i64) ret52v.2.1))), (10, [], .v (.c (.p (.int .i64) ret52v.2.2)))], [(5006, [], .arr 5 (.int .u8) all)]⟩ : St)) (by kernel_rfl) ⟨trivial, trivial, trivial, trivial, trivial, trivial, trivial, trivial⟩ ?_
        refine awl_nil ?_
        refine thenQ_n ?_
        refine aw_seq ?_
        refine aw_region ?_
        refine awl_runp 5 [3, 4, 8, 9, 58, 59, 60] [5006] (ob := (True ∧ True ∧ True ∧ ((decide (ret52v.2.2 = (0 : Int))) = true → True) ∧ ((decide (ret52v.2.2 = (0 : Int))) = true → True) ∧ True)) (st' := (⟨76, [(3, [], .v (.c (.p (.sl (.int .u8)) ret13v.1))), (4, [], .v (.c (.p (.int .i64) ret13v.2.1))), (8, [], .v (.c (.p (.sl (.int .u8)) ret52v.1))), (9, [], .v (.c (.p (.int .i64) ret52v.2.1))), (58, [], .v (.c (.p .bool (decide (ret52v.2.2 = (0 : Int)))))), (59, [(58, true)], .v (.c (.own 5006))), (60, [(58, true)], .v (.c (.p (.sl (.int .u8)) w)))], [(5006, [], .arr 5 (.int .u8) all)]⟩ : St)) (by kernel_rfl) ⟨trivial, trivial, trivial, (fun _ => trivial), (fun _ => trivial), trivial⟩ ?_
        refine awl_callk (p := [(58, true)]) (l := [toV1 (.sl (.int .u8)) all, toV1 (.sl (.int .u8)) w]) true [(.sl (.int .u8)), (.sl (.int .u8))] [3, 4, 8, 9, 58, 61] [] (fun (ret61v : Bool) => gcall (α := Bool) ((decide (ret52v.2.2 = (0 : Int))) && ret61v) (VC21 ret52v.1 ret13v.1) false (fun (ret66v : Bool) => K ((((decide (ret52v.2.2 = (0 : Int))) && ret61v) && ret66v) && ((decide (ret13v.2.1 = (0 : Int))) || (decide (ret52v.2.1 = (1 : Int))))))) (fun ret61v => [toV1 .bool ret61v]) (fun ret61v => (⟨76, [(3, [], .v (.c (.p (.sl (.int .u8)) ret13v.1))), (4, [], .v (.c (.p (.int .i64) ret13v.2.1))), (8, [], .v (.c (.p (.sl (.int .u8)) ret52v.1))), (9, [], .v (.c (.p (.int .i64) ret52v.2.1))), (58, [], .v (.c (.p .bool (decide (ret52v.2.2 = (0 : Int)))))), (61, [(58, true)], .v (.c (.p .bool ret61v)))], []⟩ : St)) (by kernel_rfl) rfl (by kernel_rfl) rfl rfl Try.call21 (by kernel_rfl) (fun ret61v => by kernel_rfl) (fun _ _ => rfl) (fun hg => link21 all w _ (by have := gcall_T h (show (decide (ret52v.2.2 = (0 : Int))) = true from hg); exact this)) (fun hg => ⟨false, by have := gcall_F h (show (decide (ret52v.2.2 = (0 : Int))) = false from hg); exact this⟩) (fun ret61v h => ?_)
        have h : gcall (α := Bool) ((decide (ret52v.2.2 = (0 : Int))) && ret61v) (VC21 ret52v.1 ret13v.1) false (fun (ret66v : Bool) => K ((((decide (ret52v.2.2 = (0 : Int))) && ret61v) && ret66v) && ((decide (ret13v.2.1 = (0 : Int))) || (decide (ret52v.2.1 = (1 : Int)))))) := h
        refine awl_runp 4 [4, 9, 63, 64, 65] [] (ob := (True ∧ True ∧ (((decide (ret52v.2.2 = (0 : Int))) && ret61v) = true → True) ∧ (((decide (ret52v.2.2 = (0 : Int))) && ret61v) = true → True) ∧ True)) (st' := (⟨76, [(4, [], .v (.c (.p (.int .i64) ret13v.2.1))), (9, [], .v (.c (.p (.int .i64) ret52v.2.1))), (63, [], .v (.c (.p .bool ((decide (ret52v.2.2 = (0 : Int))) && ret61v)))), (64, [(63, true)], .v (.c (.p (.sl (.int .u8)) ret52v.1))), (65, [(63, true)], .v (.c (.p (.sl (.int .u8)) ret13v.1)))], []⟩ : St)) (by kernel_rfl) ⟨trivial, trivial, (fun _ => trivial), (fun _ => trivial), trivial⟩ ?_
        refine awl_callk (p := [(63, true)]) (l := [toV1 (.sl (.int .u8)) ret52v.1, toV1 (.sl (.int .u8)) ret13v.1]) false [(.sl (.int .u8)), (.sl (.int .u8))] [4, 9, 63, 66] [] (fun (ret66v : Bool) => K ((((decide (ret52v.2.2 = (0 : Int))) && ret61v) && ret66v) && ((decide (ret13v.2.1 = (0 : Int))) || (decide (ret52v.2.1 = (1 : Int)))))) (fun ret66v => [toV1 .bool ret66v]) (fun ret66v => (⟨76, [(4, [], .v (.c (.p (.int .i64) ret13v.2.1))), (9, [], .v (.c (.p (.int .i64) ret52v.2.1))), (63, [], .v (.c (.p .bool ((decide (ret52v.2.2 = (0 : Int))) && ret61v)))), (66, [(63, true)], .v (.c (.p .bool ret66v)))], []⟩ : St)) (by kernel_rfl) rfl (by kernel_rfl) rfl rfl Try.call21 (by kernel_rfl) (fun ret66v => by kernel_rfl) (fun e => by cases e) (fun hg => link21 ret52v.1 ret13v.1 _ (by have := gcall_T h (show ((decide (ret52v.2.2 = (0 : Int))) && ret61v) = true from hg); exact this)) (fun hg => ⟨false, by have := gcall_F h (show ((decide (ret52v.2.2 = (0 : Int))) && ret61v) = false from hg); exact this⟩) (fun ret66v h => ?_)
        have h : K ((((decide (ret52v.2.2 = (0 : Int))) && ret61v) && ret66v) && ((decide (ret13v.2.1 = (0 : Int))) || (decide (ret52v.2.1 = (1 : Int))))) := h
        refine awl_runp 10 [2] [] (ob := (True ∧ True ∧ ((((decide (ret52v.2.2 = (0 : Int))) && ret61v) && ret66v) = true → True) ∧ ((((decide (ret52v.2.2 = (0 : Int))) && ret61v) && ret66v) = true → True) ∧ ((((decide (ret52v.2.2 = (0 : Int))) && ret61v) && ret66v) = true → True) ∧ ((((decide (ret52v.2.2 = (0 : Int))) && ret61v) && ret66v) = true → ((decide (ret13v.2.1 = (0 : Int))) = false → True)) ∧ ((((decide (ret52v.2.2 = (0 : Int))) && ret61v) && ret66v) = true → ((decide (ret13v.2.1 = (0 : Int))) = false → True)) ∧ ((((decide (ret52v.2.2 = (0 : Int))) && ret61v) && ret66v) = true → True) ∧ True ∧ True ∧ True)) (st' := (⟨76, [(2, [], .v (.c (.p .bool ((((decide (ret52v.2.2 = (0 : Int))) && ret61v) && ret66v) && ((decide (ret13v.2.1 = (0 : Int))) || (decide (ret52v.2.1 = (1 : Int))))))))], []⟩ : St)) (by kernel_rfl) ⟨trivial, trivial, (fun _ => trivial), (fun _ => trivial), (fun _ => trivial), (fun _ _ => trivial), (fun _ _ => trivial), (fun _ => trivial), trivial, trivial, trivial⟩ ?_
        refine awl_nil ?_
        refine thenQ_n ?_
        refine aw_ret ?_
        exact retQ_r (σ := Bool) (R := (fun y => [toV1 .bool y])) ((((decide (ret52v.2.2 = (0 : Int))) && ret61v) && ret66v) && ((decide (ret13v.2.1 = (0 : Int))) || (decide (ret52v.2.1 = (1 : Int))))) (by kernel_rfl) h
      · refine aw_block ?_
        refine aw_conv [.nilOwn 6 5006 5 (.int .u8), .prune [0, 3, 4, 6, 7] [5006]] (st' := (⟨76, [(0, [], .v (.c (.p (.sl (.int .u8)) w))), (3, [], .v (.c (.p (.sl (.int .u8)) ret13v.1))), (4, [], .v (.c (.p (.int .i64) ret13v.2.1))), (6, [], .v (.c (.own 5006))), (7, [], .v (.c (.p (.int .i64) (0 : Int))))], [(5006, [], .arr 5 (.int .u8) ([] : List Int))]⟩ : St)) (by kernel_rfl) ?_
        refine aw_loop (σ := Int × (List Int)) (fun s => (⟨76, [(0, [], .v (.c (.p (.sl (.int .u8)) w))), (3, [], .v (.c (.p (.sl (.int .u8)) ret13v.1))), (4, [], .v (.c (.p (.int .i64) ret13v.2.1))), (6, [], .v (.c (.own 5006))), (7, [], .v (.c (.p (.int .i64) s.1)))], [(5006, [], .arr 5 (.int .u8) s.2)]⟩ : St)) (fun s X => VC7_l1 w K ret13v s.1 s.2 X) (s0 := ((0 : Int), ([] : List Int))) (fun s X1 h => ?_) h
        obtain ⟨i, all⟩ := s
        have h : VC7_l1 w K ret13v i all X1 := h
        unfold VC7_l1 at h
        refine aw_seq ?_
        refine aw_seq ?_
        refine aw_region ?_
        refine awl_runp 3 [0, 3, 4, 6, 7, 44] [5006] (ob := (True ∧ True ∧ True ∧ True)) (st' := (⟨76, [(0, [], .v (.c (.p (.sl (.int .u8)) w))), (3, [], .v (.c (.p (.sl (.int .u8)) ret13v.1))), (4, [], .v (.c (.p (.int .i64) ret13v.2.1))), (6, [], .v (.c (.own 5006))), (7, [], .v (.c (.p (.int .i64) i))), (44, [], .v (.c (.p .bool (decide (i < ret13v.2.1)))))], [(5006, [], .arr 5 (.int .u8) all)]⟩ : St)) (by kernel_rfl) ⟨trivial, trivial, trivial, trivial⟩ ?_
        refine awl_nil ?_
        refine thenQ_n ?_
        refine aw_cond (b := (decide (i < ret13v.2.1))) (by kernel_rfl) (fun hb => ?_) (fun hb => ?_)
        · have h := h.1 hb
          refine aw_skip ?_
          refine thenQ_n ?_
          refine aw_seq ?_
          refine aw_block ?_
          refine aw_region ?_
          obtain ⟨o1, h⟩ := h
          refine awl_runp 4 [0, 3, 4, 6, 7] [49] (ob := (True ∧ True ∧ roomN (all.length + ret13v.1.length) ∧ True ∧ True)) (st' := (⟨76, [(0, [], .v (.c (.p (.sl (.int .u8)) w))), (3, [], .v (.c (.p (.sl (.int .u8)) ret13v.1))), (4, [], .v (.c (.p (.int .i64) ret13v.2.1))), (6, [], .v (.c (.own 49))), (7, [], .v (.c (.p (.int .i64) i)))], [(49, [], .arr 5 (.int .u8) (all ++ ret13v.1))]⟩ : St)) (by kernel_rfl) ⟨trivial, trivial, o1, trivial, trivial⟩ ?_
          refine awl_nil ?_
          refine blockQ_n ?_
          refine thenQ_n ?_
          refine aw_region ?_
          obtain ⟨o1, h⟩ := h
          refine awl_runp 3 [0, 3, 4, 6, 7] [49] (ob := (True ∧ InR (i + (1 : Int)) ∧ True ∧ True)) (st' := (⟨76, [(0, [], .v (.c (.p (.sl (.int .u8)) w))), (3, [], .v (.c (.p (.sl (.int .u8)) ret13v.1))), (4, [], .v (.c (.p (.int .i64) ret13v.2.1))), (6, [], .v (.c (.own 49))), (7, [], .v (.c (.p (.int .i64) (i + (1 : Int)))))], [(49, [], .arr 5 (.int .u8) (all ++ ret13v.1))]⟩ : St)) (by kernel_rfl) ⟨trivial, o1, trivial, trivial⟩ ?_
          refine awl_conv [.ren 49 20049, .ren 20049 5006] (st' := (⟨76, [(0, [], .v (.c (.p (.sl (.int .u8)) w))), (3, [], .v (.c (.p (.sl (.int .u8)) ret13v.1))), (4, [], .v (.c (.p (.int .i64) ret13v.2.1))), (6, [], .v (.c (.own 5006))), (7, [], .v (.c (.p (.int .i64) (i + (1 : Int)))))], [(5006, [], .arr 5 (.int .u8) (all ++ ret13v.1))]⟩ : St)) (by kernel_rfl) ?_
          refine awl_nil ?_
          exact thenQ_n ⟨((i + (1 : Int)), (all ++ ret13v.1)), rfl, h⟩
        · have h := h.2 hb
          refine aw_conv [.prune [0, 3, 4, 6] [5006]] (st' := (⟨76, [(0, [], .v (.c (.p (.sl (.int .u8)) w))), (3, [], .v (.c (.p (.sl (.int .u8)) ret13v.1))), (4, [], .v (.c (.p (.int .i64) ret13v.2.1))), (6, [], .v (.c (.own 5006)))], [(5006, [], .arr 5 (.int .u8) all)]⟩ : St)) (by kernel_rfl) ?_
          refine aw_exit ?_
          refine thenQ_x ?_
          refine thenQ_x ?_
          refine blockQ_hit ?_
          exact rest1 all h

end Dec
