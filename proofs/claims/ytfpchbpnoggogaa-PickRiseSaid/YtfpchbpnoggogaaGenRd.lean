/-
  Printed by dec2.py: of each function its plain demand, and that the demand gives the contract.
-/
import Derived.Test.YtfpchbpnoggogaaGenRc
set_option linter.unusedVariables false
set_option linter.unusedSimpArgs false
set_option maxRecDepth 100000
namespace Dec
open Go Go.RowKit Go.Proofs

abbrev e33c0 (g : (Int × (Int × (Int × (List (Int × LI)))))) : Nat × Path × Con := hB 30000 [.pI g.1, .pI g.2.1, .pI g.2.2.1, .p (.sl (.pr (.int .i64) (.sl (.int .i64)))) g.2.2.2]
abbrev e33c1 (g : (Int × (Int × (Int × (List (Int × LI)))))) (w : LI) : Nat × Path × Con := hB 30401 [.pI g.1, .pI g.2.1, .pI g.2.2.1, .p (.sl (.pr (.int .i64) (.sl (.int .i64)))) g.2.2.2, .pS w, .own 30400]
abbrev e33c2 (g : (Int × (Int × (Int × (List (Int × LI)))))) (w : LI) : Nat × Path × Con := hB 7 [.pI (-1 : Int), .pI (g.1 + g.2.2.1), .pI (0 : Int), .pI (w.length : Int)]
abbrev e33c3 : Nat × Path × Con := (30400, [], .dict (.pr (.int .i64) t3) (.int .i64) ([] : List ((Int × (Int × (Int × Int))) × Int)))
abbrev e33c4 (g : (Int × (Int × (Int × (List (Int × LI)))))) : Nat × Path × Con := hB 2 [.pI g.1, .pI g.2.1, .pI g.2.2.1, .p (.sl (.pr (.int .i64) (.sl (.int .i64)))) g.2.2.2]
abbrev e33c5 (g : (Int × (Int × (Int × (List (Int × LI)))))) (w : LI) : Nat × Path × Con := hB 40200 [.pI g.1, .pI g.2.1, .pI g.2.2.1, .p (.sl (.pr (.int .i64) (.sl (.int .i64)))) g.2.2.2, .pS w, .own 40201]
abbrev e33c6 (g : (Int × (Int × (Int × (List (Int × LI)))))) : Nat × Path × AV := s1 56 (.p (.sl (.pr (.int .i64) (.sl (.int .i64)))) g.2.2.2)
abbrev e33c7 (w : LI) : Nat × Path × Con := hB 5 [.pI (0 : Int), .pI (w.length : Int)]
abbrev e33c8 (l30400 : (List ((Int × (Int × (Int × Int))) × Int))) : Nat × Path × Con := (30400, [], .dict (.pr (.int .i64) t3) (.int .i64) l30400)
abbrev e33c9 (g : (Int × (Int × (Int × (List (Int × LI)))))) : Nat × Path × Con := hB 30200 [.pI g.1, .pI g.2.1, .pI g.2.2.1, .p (.sl (.pr (.int .i64) (.sl (.int .i64)))) g.2.2.2]
abbrev e33c10 (w : LI) : Nat × Path × AV := s1 124 (.pS w)
abbrev e33c11 (g : (Int × (Int × (Int × (List (Int × LI)))))) : Nat × Path × AV := sI 1 (g.1 + g.2.2.1)
abbrev e33c12 (g : (Int × (Int × (Int × (List (Int × LI)))))) (w : LI) : Nat × Path × Con := hB 9 [.pI g.1, .pI g.2.1, .pI g.2.2.1, .p (.sl (.pr (.int .i64) (.sl (.int .i64)))) g.2.2.2, .pS w, .own 7]
abbrev e33c13 (g : (Int × (Int × (Int × (List (Int × LI)))))) : Nat × Path × AV := sI 57 (g.2.2.2.length : Int)
abbrev e33c14 : Nat × Path × AV := sp 126 30000
abbrev e33c15 : Nat × Path × Con := (7, [], .dict (.pr (.int .i64) t3) (.int .i64) ([] : List ((Int × (Int × (Int × Int))) × Int)))
abbrev e33c16 (w : LI) : Nat × Path × AV := s1 1 (.pS w)
abbrev e33c17 (w : LI) : Nat × Path × AV := s1 37 (.pS w)
abbrev e33c18 (g : (Int × (Int × (Int × (List (Int × LI)))))) (w : LI) : Nat × Path × AV := sI 8 ((mget ([] : List ((Int × (Int × (Int × Int))) × Int)) ((-1 : Int), ((g.1 + g.2.2.1), ((0 : Int), (w.length : Int))))).getD (0 : Int))
abbrev e33c19 : Nat × Path × AV := sp 95 30401
abbrev e33c20 : Nat × Path × AV := sp 39 30000
abbrev e33c21 (ret77v : Int × (List ((Int × (Int × (Int × Int))) × Int))) : Nat × Path × Con := (40201, [], .dict (.pr (.int .i64) t3) (.int .i64) ret77v.2)
abbrev e33c22 (g : (Int × (Int × (Int × (List (Int × LI)))))) (w : LI) : Nat × Path × Con := hB 40400 [.pI g.1, .pI g.2.1, .pI g.2.2.1, .p (.sl (.pr (.int .i64) (.sl (.int .i64)))) g.2.2.2, .pS w, .own 40401]
abbrev e33c23 (w : LI) : Nat × Path × AV := sA 36 [.pI (0 : Int), .pI (w.length : Int)]
abbrev e33c24 : Nat × Path × AV := sp 0 30401
abbrev e33c25 (w : LI) : Nat × Path × AV := sA 76 [.pI (0 : Int), .pI (w.length : Int)]
-- coppicer/pick.Pick
def VC33_k1 (g : (Int × (Int × (Int × (List (Int × LI)))))) (i : Int) (K : LI × Int → Prop) (v6 : Int) : Prop :=
  (((!decide (v6 = (0 : Int))) = true → K (([] : LI), v6)) ∧ ((!decide (v6 = (0 : Int))) = false → ((((decide (i < (0 : Int))) || (decide ((0 : Int) ≤ i))) = true → K (([] : LI), (5 : Int))) ∧ (((decide (i < (0 : Int))) || (decide ((0 : Int) ≤ i))) = false → (InR (g.1 + g.2.2.1) ∧ False)))))

def VC33_k2 (g : (Int × (Int × (Int × (List (Int × LI)))))) (w : LI) (i : Int) (K : LI × Int → Prop) (v6 : Int) (l30400 : (List ((Int × (Int × (Int × Int))) × Int))) : Prop :=
  (((decide ((1099511627776 : Int) < v6)) = true → VC33_k1 g i K (1 : Int)) ∧ ((decide ((1099511627776 : Int) < v6)) = false → (((!decide ((0 : Int) = (0 : Int))) = true → K (([] : LI), (0 : Int))) ∧ ((!decide ((0 : Int) = (0 : Int))) = false → ((((decide (i < (0 : Int))) || (decide (v6 ≤ i))) = true → K (([] : LI), (5 : Int))) ∧ (((decide (i < (0 : Int))) || (decide (v6 ≤ i))) = false → (InR (g.1 + g.2.2.1) ∧ VCcr67 g.1 g.2.1 g.2.2.1 g.2.2.2 w (g.1 + g.2.2.1) (0 : Int) (w.length : Int) i l30400 (fun (ret38v : LI × (List ((Int × (Int × (Int × Int))) × Int))) => K (ret38v.1, (0 : Int))))))))))

def VC33_k3 (g : (Int × (Int × (Int × (List (Int × LI)))))) (w : LI) (i : Int) (K : LI × Int → Prop) (n : Int) (l30400 : (List ((Int × (Int × (Int × Int))) × Int))) : Prop :=
  VC33_k2 g w i K n (mset l30400 ((-1 : Int), ((g.1 + g.2.2.1), ((0 : Int), (w.length : Int)))) n)

def VC33_k4 (v58 : Int) (X1 : Int × Int × (List ((Int × (Int × (Int × Int))) × Int)) → Prop) (n2 : Int) (l40201 : (List ((Int × (Int × (Int × Int))) × Int))) : Prop :=
  (InR (v58 + (1 : Int)) ∧ X1 (n2, (v58 + (1 : Int)), l40201))

def VC33_l1 (g : (Int × (Int × (Int × (List (Int × LI)))))) (w : LI) (i : Int) (K : LI × Int → Prop) (n : Int) (v58 : Int) (l30400 : (List ((Int × (Int × (Int × Int))) × Int))) (X1 : Int × Int × (List ((Int × (Int × (Int × Int))) × Int)) → Prop) : Prop :=
  (((decide (v58 < (g.2.2.2.length : Int))) = true → (inIdx v58 g.2.2.2.length ∧ (InR ((g.1 + g.2.2.1) - g.1) ∧ (((decide ((g.2.2.2.getD (v58).toNat ((0 : Int), ([] : LI))).1 = ((g.1 + g.2.2.1) - g.1))) = true → VCcr100 g.1 g.2.1 g.2.2.1 g.2.2.2 w v58 (0 : Int) (0 : Int) (w.length : Int) l30400 (fun (ret77v : Int × (List ((Int × (Int × (Int × Int))) × Int))) => VC109 n ret77v.1 (fun (ret78v : Int) => VC33_k4 v58 X1 ret78v ret77v.2))) ∧ ((decide ((g.2.2.2.getD (v58).toNat ((0 : Int), ([] : LI))).1 = ((g.1 + g.2.2.1) - g.1))) = false → VC33_k4 v58 X1 n l30400))))) ∧ ((decide (v58 < (g.2.2.2.length : Int))) = false → VC33_k3 g w i K n l30400))

def VC33 (g : (Int × (Int × (Int × (List (Int × LI)))))) (w : LI) (i : Int) (K : LI × Int → Prop) : Prop :=
  VC44 g w (fun (ret12v : Int) => (((!decide (ret12v = (0 : Int))) = true → VC33_k1 g i K ret12v) ∧ ((!decide (ret12v = (0 : Int))) = false → VC84 g (fun (ret17v : Bool) => (((!ret17v) = true → VC33_k1 g i K (3 : Int)) ∧ ((!ret17v) = false → (InR (g.1 + g.2.2.1) ∧ (((decide ((g.1 + g.2.2.1) < g.1)) = true → (InR ((0 : Int) + (1 : Int)) ∧ ((decide ((w.length : Int) = ((0 : Int) + (1 : Int)))) = true → inIdx (0 : Int) w.length) ∧ ((((decide ((w.length : Int) = ((0 : Int) + (1 : Int)))) && (decide ((w.getD ((0 : Int)).toNat (0 : Int)) = (g.1 + g.2.2.1)))) = true → VC33_k2 g w i K (1 : Int) ([] : List ((Int × (Int × (Int × Int))) × Int))) ∧ (((decide ((w.length : Int) = ((0 : Int) + (1 : Int)))) && (decide ((w.getD ((0 : Int)).toNat (0 : Int)) = (g.1 + g.2.2.1)))) = false → VC33_k2 g w i K (0 : Int) ([] : List ((Int × (Int × (Int × Int))) × Int)))))) ∧ ((decide ((g.1 + g.2.2.1) < g.1)) = false → (((mget ([] : List ((Int × (Int × (Int × Int))) × Int)) ((-1 : Int), ((g.1 + g.2.2.1), ((0 : Int), (w.length : Int))))).isSome = true → VC33_k2 g w i K ((mget ([] : List ((Int × (Int × (Int × Int))) × Int)) ((-1 : Int), ((g.1 + g.2.2.1), ((0 : Int), (w.length : Int))))).getD (0 : Int)) ([] : List ((Int × (Int × (Int × Int))) × Int))) ∧ ((mget ([] : List ((Int × (Int × (Int × Int))) × Int)) ((-1 : Int), ((g.1 + g.2.2.1), ((0 : Int), (w.length : Int))))).isSome = false → Loop (σ := Int × Int × (List ((Int × (Int × (Int × Int))) × Int))) (fun s X => VC33_l1 g w i K s.1 s.2.1 s.2.2 X) ((0 : Int), (0 : Int), ([] : List ((Int × (Int × (Int × Int))) × Int))))))))))))))

set_option maxHeartbeats 4000000 in
theorem link33 (g : (Int × (Int × (Int × (List (Int × LI)))))) (w : LI) (i : Int) (K : LI × Int → Prop) (h : VC33 g w i K) : ACalls Try.prog 33 [toV1 (.pr (.int .i64) (.pr (.int .i64) (.pr (.int .i64) (.sl (.pr (.int .i64) (.sl (.int .i64))))))) g, toV1 (.sl (.int .i64)) w, toV1 (.int .i64) i] (fun res => ∃ y, res = (fun y => [toV1 (.sl (.int .i64)) y.1, toV1 (.int .i64) y.2]) y ∧ K y) := by
 refine acalls_of_aw [(.sl (.int .i64)), (.int .i64)] [.t 6, .t 7] Try.func33 rfl rfl rfl ?_
 unfold VC33 at h
 refine sr ?_
 refine rq 3 (ob := (Ts 3 True)) (st' := (⟨39, [e33c16 w, sI 2 i, sp 3 3], [hB 3 [.pI g.1, .pI g.2.1, .pI g.2.2.1, .p (.sl (.pr (.int .i64) (.sl (.int .i64)))) g.2.2.2]]⟩ : St)) (by kernel_rfl) (tsI 3 trivial) ?_
 refine nsr ?_
 refine rq 2 (ob := (Ts 2 True)) (st' := (⟨39, [e33c16 w, sI 2 i, sp 3 3, sA 12 [.pI g.1, .pI g.2.1, .pI g.2.2.1, .p (.sl (.pr (.int .i64) (.sl (.int .i64)))) g.2.2.2], s1 13 (.pS w)], [hB 3 [.pI g.1, .pI g.2.1, .pI g.2.2.1, .p (.sl (.pr (.int .i64) (.sl (.int .i64)))) g.2.2.2]]⟩ : St)) (by kernel_rfl) (tsI 2 trivial) ?_
 refine awl_conv [.ren 3 30000] (st' := (⟨39, [e33c16 w, sI 2 i, sp 3 30000, sA 12 [.pI g.1, .pI g.2.1, .pI g.2.2.1, .p (.sl (.pr (.int .i64) (.sl (.int .i64)))) g.2.2.2], s1 13 (.pS w)], [e33c0 g]⟩ : St)) (by kernel_rfl) ?_
 refine awl_inlr [.t 4, .t 5, .t 6] [30000] [.agg [.pI g.1, .pI g.2.1, .pI g.2.2.1, .p (.sl (.pr (.int .i64) (.sl (.int .i64)))) g.2.2.2], .c (.pS w)] [] rfl rfl (by kernel_rfl) rfl (by kernel_rfl) Try.call54 (by kernel_rfl) (by kernel_rfl) Try.func54 rfl rfl (by kernel_rfl) ?_
 refine aw_conv [] (st' := (⟨36, [sA 0 [.pI g.1, .pI g.2.1, .pI g.2.2.1, .p (.sl (.pr (.int .i64) (.sl (.int .i64)))) g.2.2.2], e33c16 w, e33c17 w, sI 38 i, e33c20, sA 48 [.pI g.1, .pI g.2.1, .pI g.2.2.1, .p (.sl (.pr (.int .i64) (.sl (.int .i64)))) g.2.2.2], s1 49 (.pS w)], [e33c0 g]⟩ : St)) (by kernel_rfl) ?_
 refine withJoinR (σ := Int) (fun s => (⟨36, [s1 4 (.any), sI 5 (0 : Int), sI 6 s, e33c17 w, sI 38 i, e33c20], [e33c0 g]⟩ : St)) (fun s => VC33_k1 g i K s) (fun v6 h => ?_) (fun rest1 => ?_)
 ·have h : VC33_k1 g i K v6 := h
  unfold VC33_k1 at h
  refine inlR_n (ob := (True ∧ True ∧ True ∧ True)) (.tup [.c (.any), .c (.pI (0 : Int)), .c (.pI v6)]) (by kernel_rfl) ⟨trivial, trivial, trivial, trivial⟩ rfl ?_
  refine lpr (st' := (⟨39, [e33c16 w, sI 2 i, sp 3 30000, (14, [], .tup [.c (.any), .c (.pI (0 : Int)), .c (.pI v6)])], [e33c0 g]⟩ : St)) (by kernel_rfl) ?_
  refine rq 7 (ob := (Ts 7 True)) (st' := (⟨39, [e33c16 w, sI 2 i, sp 3 30000, s1 8 (.any), sI 9 (0 : Int), sI 10 v6], [e33c0 g]⟩ : St)) (by kernel_rfl) (tsI 7 trivial) ?_
  refine nn ?_
  refine aw_seq ?_
  refine sr ?_
  refine rq 2 (ob := (Ts 2 True)) (st' := (⟨39, [e33c16 w, sI 2 i, sp 3 30000, s1 8 (.any), sI 9 (0 : Int), sI 10 v6, sB 19 (!decide (v6 = (0 : Int)))], [e33c0 g]⟩ : St)) (by kernel_rfl) (tsI 2 trivial) ?_
  refine nn ?_
  refine aw_cond (b := (!decide (v6 = (0 : Int)))) (by kernel_rfl) (fun hb => ?_) (fun hb => ?_)
  ·have h := h.1 hb
   refine sr ?_
   refine rq 3 (ob := (Ts 3 True)) (st' := (⟨39, [s1 6 (.nils), sI 7 v6], []⟩ : St)) (by kernel_rfl) (tsI 3 trivial) ?_
   refine nn ?_
   refine aw_ret ?_
   refine thenQ_r ?_
   exact retQ_r (ob := Ts 2 True) _ (by kernel_rfl) (tsI 2 trivial) h
  ·have h := h.2 hb
   refine aw_skip ?_
   refine thenQ_n ?_
   refine aw_seq ?_
   refine sr ?_
   refine rq 7 (ob := (Ts 3 (Ti 3 ((decide (i < (0 : Int))) = false → True) (Ts 1 True)))) (st' := (⟨39, [e33c16 w, sI 2 i, sp 3 30000, s1 8 (.any), sB 27 ((decide (i < (0 : Int))) || (decide ((0 : Int) ≤ i)))], [e33c0 g]⟩ : St)) (by kernel_rfl) (tsI 3 (tiI 3 (fun _ => trivial) (tsI 1 trivial))) ?_
   refine nn ?_
   refine aw_cond (b := ((decide (i < (0 : Int))) || (decide ((0 : Int) ≤ i)))) (by kernel_rfl) (fun hb => ?_) (fun hb => ?_)
   ·have h := h.1 hb
    refine sr ?_
    refine rq 2 (ob := (Ts 2 True)) (st' := (⟨39, [s1 6 (.nils), sI 7 (5 : Int)], []⟩ : St)) (by kernel_rfl) (tsI 2 trivial) ?_
    refine nn ?_
    refine aw_ret ?_
    refine thenQ_r ?_
    exact retQ_r (ob := Ts 2 True) _ (by kernel_rfl) (tsI 2 trivial) h
   ·have h := h.2 hb
    refine aw_skip ?_
    refine thenQ_n ?_
    refine sr ?_
    obtain ⟨o1, h⟩ := h
    refine rq 10 (ob := (Ts 5 (InR (g.1 + g.2.2.1) ∧ Ts 4 True))) (st' := (⟨39, [s1 28 (.any), sI 33 (g.1 + g.2.2.1), e33c23 w, sI 37 i], []⟩ : St)) (by kernel_rfl) (tsI 5 ⟨o1, tsI 4 trivial⟩) ?_
    exact h.elim
 ·refine sr ?_
  refine rq 4 (ob := (Ts 4 True)) (st' := (⟨36, [e33c16 w, sp 2 2, e33c17 w, sI 38 i, e33c20], [e33c4 g, e33c0 g]⟩ : St)) (by kernel_rfl) (tsI 4 trivial) ?_
  refine nn ?_
  refine aw_seq ?_
  refine sr ?_
  refine rq 2 (ob := (Ts 2 True)) (st' := (⟨36, [e33c16 w, sp 2 2, sA 10 [.pI g.1, .pI g.2.1, .pI g.2.2.1, .p (.sl (.pr (.int .i64) (.sl (.int .i64)))) g.2.2.2], s1 11 (.pS w), e33c17 w, sI 38 i, e33c20], [e33c4 g, e33c0 g]⟩ : St)) (by kernel_rfl) (tsI 2 trivial) ?_
  refine lcq (d := 12) [.d (.pr (.int .i64) (.pr (.int .i64) (.pr (.int .i64) (.sl (.pr (.int .i64) (.sl (.int .i64))))))), .d (.sl (.int .i64))] (fun ret12v => (⟨36, [e33c16 w, sp 2 2, sI 12 ret12v, e33c17 w, sI 38 i, e33c20], [e33c4 g, e33c0 g]⟩ : St)) (by kernel_rfl) Try.call44 (fun _ => by kernel_rfl) (link44 g w _ h) (fun ret12v h => ?_)
  refine rq 1 (ob := (Ts 1 True)) (st' := (⟨36, [e33c16 w, sp 2 2, sI 7 ret12v, e33c17 w, sI 38 i, e33c20], [e33c4 g, e33c0 g]⟩ : St)) (by kernel_rfl) (tsI 1 trivial) ?_
  refine nsr ?_
  refine rq 2 (ob := (Ts 2 True)) (st' := (⟨36, [e33c16 w, sp 2 2, sI 7 ret12v, sB 14 (!decide (ret12v = (0 : Int))), e33c17 w, sI 38 i, e33c20], [e33c4 g, e33c0 g]⟩ : St)) (by kernel_rfl) (tsI 2 trivial) ?_
  refine nn ?_
  refine aw_cond (b := (!decide (ret12v = (0 : Int)))) (by kernel_rfl) (fun hb => ?_) (fun hb => ?_)
  ·have h := h.1 hb
   refine sr ?_
   refine rq 4 (ob := (Ts 4 True)) (st' := (⟨36, [s1 4 (.any), sI 5 (0 : Int), sI 6 ret12v, e33c17 w, sI 38 i, e33c20], [e33c0 g]⟩ : St)) (by kernel_rfl) (tsI 4 trivial) ?_
   refine nn ?_
   refine aw_ret ?_
   refine thenQ_r ?_
   exact rest1 ret12v h
  ·have h := h.2 hb
   refine aw_skip ?_
   refine thenQ_n ?_
   refine aw_seq ?_
   refine sr ?_
   refine rq 1 (ob := (Ts 1 True)) (st' := (⟨36, [e33c16 w, sp 2 2, sA 16 [.pI g.1, .pI g.2.1, .pI g.2.2.1, .p (.sl (.pr (.int .i64) (.sl (.int .i64)))) g.2.2.2], e33c17 w, sI 38 i, e33c20], [e33c4 g, e33c0 g]⟩ : St)) (by kernel_rfl) (tsI 1 trivial) ?_
   refine lcq (d := 17) [.d (.pr (.int .i64) (.pr (.int .i64) (.pr (.int .i64) (.sl (.pr (.int .i64) (.sl (.int .i64)))))))] (fun ret17v => (⟨36, [e33c16 w, sp 2 2, sB 17 ret17v, e33c17 w, sI 38 i, e33c20], [e33c4 g, e33c0 g]⟩ : St)) (by kernel_rfl) Try.call84 (fun _ => by kernel_rfl) (link84 g _ h) (fun ret17v h => ?_)
   refine rq 1 (ob := (Ts 1 True)) (st' := (⟨36, [e33c16 w, sp 2 2, sB 18 (!ret17v), e33c17 w, sI 38 i, e33c20], [e33c4 g, e33c0 g]⟩ : St)) (by kernel_rfl) (tsI 1 trivial) ?_
   refine nn ?_
   refine aw_cond (b := (!ret17v)) (by kernel_rfl) (fun hb => ?_) (fun hb => ?_)
   ·have h := h.1 hb
    refine sr ?_
    refine rq 3 (ob := (Ts 3 True)) (st' := (⟨36, [s1 4 (.any), sI 5 (0 : Int), sI 6 (3 : Int), e33c17 w, sI 38 i, e33c20], [e33c0 g]⟩ : St)) (by kernel_rfl) (tsI 3 trivial) ?_
    refine nn ?_
    refine aw_ret ?_
    refine thenQ_r ?_
    exact rest1 (3 : Int) h
   ·have h := h.2 hb
    refine aw_skip ?_
    refine thenQ_n ?_
    refine sr ?_
    refine rq 2 (ob := (Ts 2 True)) (st' := (⟨36, [e33c16 w, sp 2 2, sA 19 [.pI g.1, .pI g.2.1, .pI g.2.2.1, .p (.sl (.pr (.int .i64) (.sl (.int .i64)))) g.2.2.2], s1 20 (.pS w), e33c17 w, sI 38 i, e33c20], [e33c4 g, e33c0 g]⟩ : St)) (by kernel_rfl) (tsI 2 trivial) ?_
    refine awl_conv [.ren 2 30200] (st' := (⟨36, [e33c16 w, sp 2 30200, sA 19 [.pI g.1, .pI g.2.1, .pI g.2.2.1, .p (.sl (.pr (.int .i64) (.sl (.int .i64)))) g.2.2.2], s1 20 (.pS w), e33c17 w, sI 38 i, e33c20], [e33c9 g, e33c0 g]⟩ : St)) (by kernel_rfl) ?_
    refine awl_inlr [.t 4] [30200, 30000] [.agg [.pI g.1, .pI g.2.1, .pI g.2.2.1, .p (.sl (.pr (.int .i64) (.sl (.int .i64)))) g.2.2.2], .c (.pS w)] [] rfl rfl (by kernel_rfl) rfl (by kernel_rfl) Try.call85 (by kernel_rfl) (by kernel_rfl) Try.func85 rfl rfl (by kernel_rfl) ?_
    refine aw_conv [] (st' := (⟨10, [sA 0 [.pI g.1, .pI g.2.1, .pI g.2.2.1, .p (.sl (.pr (.int .i64) (.sl (.int .i64)))) g.2.2.2], e33c16 w, s1 11 (.pS w), sp 12 30200, sA 29 [.pI g.1, .pI g.2.1, .pI g.2.2.1, .p (.sl (.pr (.int .i64) (.sl (.int .i64)))) g.2.2.2], s1 30 (.pS w), s1 47 (.pS w), sI 48 i, sp 49 30000], [e33c9 g, e33c0 g]⟩ : St)) (by kernel_rfl) ?_
    refine sr ?_
    refine rq 2 (ob := (Ts 2 True)) (st' := (⟨10, [e33c16 w, sp 2 2, s1 11 (.pS w), sp 12 30200, s1 47 (.pS w), sI 48 i, sp 49 30000], [e33c4 g, e33c0 g, e33c9 g]⟩ : St)) (by kernel_rfl) (tsI 2 trivial) ?_
    refine nsr ?_
    refine rq 6 (ob := (Ts 6 True)) (st' := (⟨10, [sp 4 9, s1 11 (.pS w), sp 12 30200, s1 47 (.pS w), sI 48 i, sp 49 30000], [e33c15, e33c12 g w, e33c0 g, e33c9 g]⟩ : St)) (by kernel_rfl) (tsI 6 trivial) ?_
    refine nn ?_
    refine aw_ret ?_
    refine inlR_r (ob := True) (.v (.c (.ptr 9 0))) (by kernel_rfl) trivial rfl ?_
    refine lpr (st' := (⟨36, [e33c16 w, sp 2 30200, sp 21 9, e33c17 w, sI 38 i, e33c20], [e33c15, e33c12 g w, e33c0 g, e33c9 g]⟩ : St)) (by kernel_rfl) ?_
    refine rq 1 (ob := (Ts 1 True)) (st' := (⟨36, [e33c16 w, sp 2 30200, sp 8 9, e33c17 w, sI 38 i, e33c20], [e33c15, e33c12 g w, e33c0 g, e33c9 g]⟩ : St)) (by kernel_rfl) (tsI 1 trivial) ?_
    refine nsr ?_
    obtain ⟨o1, h⟩ := h
    refine rq 9 (ob := (Ts 5 (InR (g.1 + g.2.2.1) ∧ Ts 3 True))) (st' := (⟨36, [sp 8 9, sp 22 9, sI 27 (g.1 + g.2.2.1), sA 30 [.pI (0 : Int), .pI (w.length : Int)], e33c17 w, sI 38 i, e33c20], [e33c15, e33c12 g w, e33c0 g]⟩ : St)) (by kernel_rfl) (tsI 5 ⟨o1, tsI 3 trivial⟩) ?_
    refine awl_conv [.ren 7 30400, .ren 9 30401] (st' := (⟨36, [sp 8 30401, sp 22 30401, sI 27 (g.1 + g.2.2.1), sA 30 [.pI (0 : Int), .pI (w.length : Int)], e33c17 w, sI 38 i, e33c20], [e33c3, e33c1 g w, e33c0 g]⟩ : St)) (by kernel_rfl) ?_
    refine awl_inlr [.t 6] [30400, 30401, 30000] [.c (.ptr 30401 0), .c (.pI (g.1 + g.2.2.1)), .agg [.pI (0 : Int), .pI (w.length : Int)]] [] rfl rfl (by kernel_rfl) rfl (by kernel_rfl) Try.call86 (by kernel_rfl) (by kernel_rfl) Try.func86 rfl rfl (by kernel_rfl) ?_
    refine aw_conv [] (st' := (⟨87, [e33c24, e33c11 g, sA 2 [.pI (0 : Int), .pI (w.length : Int)], e33c19, sp 109 30401, sI 114 (g.1 + g.2.2.1), sA 117 [.pI (0 : Int), .pI (w.length : Int)], e33c10 w, sI 125 i, e33c14], [e33c3, e33c1 g w, e33c0 g]⟩ : St)) (by kernel_rfl) ?_
    refine withJoinR (σ := Int × (List ((Int × (Int × (Int × Int))) × Int))) (fun s => (⟨87, [sI 6 s.1, e33c19, e33c10 w, sI 125 i, e33c14], [e33c0 g, (30400, [], .dict (.pr (.int .i64) t3) (.int .i64) s.2), e33c1 g w]⟩ : St)) (fun s => VC33_k2 g w i K s.1 s.2) (fun s h => ?_) (fun rest2 => ?_)
    ·obtain ⟨v6, l30400⟩ := s
     have h : VC33_k2 g w i K v6 l30400 := h
     unfold VC33_k2 at h
     refine inlR_n (ob := True) (.v (.c (.pI v6))) (by kernel_rfl) trivial rfl ?_
     refine lpr (st' := (⟨36, [sp 8 30401, sI 31 v6, e33c17 w, sI 38 i, e33c20], [e33c0 g, e33c8 l30400, e33c1 g w]⟩ : St)) (by kernel_rfl) ?_
     refine rq 1 (ob := (Ts 1 True)) (st' := (⟨36, [sp 8 30401, sI 9 v6, e33c17 w, sI 38 i, e33c20], [e33c0 g, e33c8 l30400, e33c1 g w]⟩ : St)) (by kernel_rfl) (tsI 1 trivial) ?_
     refine nn ?_
     refine aw_seq ?_
     refine sr ?_
     refine rq 2 (ob := (Ts 2 True)) (st' := (⟨36, [sp 8 30401, sI 9 v6, sB 33 (decide ((1099511627776 : Int) < v6)), e33c17 w, sI 38 i, e33c20], [e33c0 g, e33c8 l30400, e33c1 g w]⟩ : St)) (by kernel_rfl) (tsI 2 trivial) ?_
     refine nn ?_
     refine aw_cond (b := (decide ((1099511627776 : Int) < v6))) (by kernel_rfl) (fun hb => ?_) (fun hb => ?_)
     ·have h := h.1 hb
      refine sr ?_
      refine rq 3 (ob := (Ts 3 True)) (st' := (⟨36, [s1 4 (.any), sI 5 (0 : Int), sI 6 (1 : Int), e33c17 w, sI 38 i, e33c20], [e33c0 g]⟩ : St)) (by kernel_rfl) (tsI 3 trivial) ?_
      refine nn ?_
      refine aw_ret ?_
      refine thenQ_r ?_
      exact rest1 (1 : Int) h
     ·have h := h.2 hb
      refine aw_skip ?_
      refine thenQ_n ?_
      refine sr ?_
      refine rq 5 (ob := (Ts 5 True)) (st' := (⟨36, [sp 4 30401, sI 5 v6, sI 6 (0 : Int), e33c17 w, sI 38 i, e33c20], [e33c0 g, e33c8 l30400, e33c1 g w]⟩ : St)) (by kernel_rfl) (tsI 5 trivial) ?_
      refine nn ?_
      refine aw_ret ?_
      refine inlR_r (ob := (True ∧ True ∧ True ∧ True)) (.tup [.c (.ptr 30401 0), .c (.pI v6), .c (.pI (0 : Int))]) (by kernel_rfl) ⟨trivial, trivial, trivial, trivial⟩ rfl ?_
      refine lpr (st' := (⟨39, [e33c16 w, sI 2 i, sp 3 30000, (14, [], .tup [.c (.ptr 30401 0), .c (.pI v6), .c (.pI (0 : Int))])], [e33c0 g, e33c8 l30400, e33c1 g w]⟩ : St)) (by kernel_rfl) ?_
      refine rq 7 (ob := (Ts 7 True)) (st' := (⟨39, [e33c16 w, sI 2 i, sp 3 30000, sp 8 30401, sI 9 v6, sI 10 (0 : Int)], [e33c0 g, e33c8 l30400, e33c1 g w]⟩ : St)) (by kernel_rfl) (tsI 7 trivial) ?_
      refine nn ?_
      refine aw_seq ?_
      refine sr ?_
      refine rq 2 (ob := (Ts 2 True)) (st' := (⟨39, [e33c16 w, sI 2 i, sp 3 30000, sp 8 30401, sI 9 v6, sI 10 (0 : Int), sB 19 (!decide ((0 : Int) = (0 : Int)))], [e33c0 g, e33c8 l30400, e33c1 g w]⟩ : St)) (by kernel_rfl) (tsI 2 trivial) ?_
      refine nn ?_
      refine aw_cond (b := (!decide ((0 : Int) = (0 : Int)))) (by kernel_rfl) (fun hb => ?_) (fun hb => ?_)
      ·have h := h.1 hb
       refine sr ?_
       refine rq 3 (ob := (Ts 3 True)) (st' := (⟨39, [s1 6 (.nils), sI 7 (0 : Int)], []⟩ : St)) (by kernel_rfl) (tsI 3 trivial) ?_
       refine nn ?_
       refine aw_ret ?_
       refine thenQ_r ?_
       exact retQ_r (ob := Ts 2 True) _ (by kernel_rfl) (tsI 2 trivial) h
      ·have h := h.2 hb
       refine aw_skip ?_
       refine thenQ_n ?_
       refine aw_seq ?_
       refine sr ?_
       refine rq 7 (ob := (Ts 3 (Ti 3 ((decide (i < (0 : Int))) = false → True) (Ts 1 True)))) (st' := (⟨39, [e33c16 w, sI 2 i, sp 3 30000, sp 8 30401, sB 27 ((decide (i < (0 : Int))) || (decide (v6 ≤ i)))], [e33c0 g, e33c8 l30400, e33c1 g w]⟩ : St)) (by kernel_rfl) (tsI 3 (tiI 3 (fun _ => trivial) (tsI 1 trivial))) ?_
       refine nn ?_
       refine aw_cond (b := ((decide (i < (0 : Int))) || (decide (v6 ≤ i)))) (by kernel_rfl) (fun hb => ?_) (fun hb => ?_)
       ·have h := h.1 hb
        refine sr ?_
        refine rq 2 (ob := (Ts 2 True)) (st' := (⟨39, [s1 6 (.nils), sI 7 (5 : Int)], []⟩ : St)) (by kernel_rfl) (tsI 2 trivial) ?_
        refine nn ?_
        refine aw_ret ?_
        refine thenQ_r ?_
        exact retQ_r (ob := Ts 2 True) _ (by kernel_rfl) (tsI 2 trivial) h
       ·have h := h.2 hb
        refine aw_skip ?_
        refine thenQ_n ?_
        refine sr ?_
        obtain ⟨o1, h⟩ := h
        refine rq 10 (ob := (Ts 5 (InR (g.1 + g.2.2.1) ∧ Ts 4 True))) (st' := (⟨39, [sp 28 30401, sI 33 (g.1 + g.2.2.1), e33c23 w, sI 37 i], [e33c8 l30400, e33c1 g w]⟩ : St)) (by kernel_rfl) (tsI 5 ⟨o1, tsI 4 trivial⟩) ?_
        refine awl_conv [.ren 30401 40400, .ren 30400 40401] (st' := (⟨39, [sp 28 40400, sI 33 (g.1 + g.2.2.1), e33c23 w, sI 37 i], [(40401, [], .dict (.pr (.int .i64) t3) (.int .i64) l30400), e33c22 g w]⟩ : St)) (by kernel_rfl) ?_
        refine awl_lcall (σ := LI × (List ((Int × (Int × (Int × Int))) × Int))) [40400, 40401] [40400] [.c (.ptr 40400 0), .c (.pI (g.1 + g.2.2.1)), .agg [.pI (0 : Int), .pI (w.length : Int)], .c (.pI i)] [] (fun ret38v => .v (.c (.pS ret38v.1))) (fun ret38v => [hB 40400 [.pI g.1, .pI g.2.1, .pI g.2.2.1, .p (.sl (.pr (.int .i64) (.sl (.int .i64)))) g.2.2.2, .pS w, .own 40401], (40401, [], .dict (.pr (.int .i64) t3) (.int .i64) ret38v.2)]) (fun (ret38v : LI × (List ((Int × (Int × (Int × Int))) × Int))) => K (ret38v.1, (0 : Int))) [hB 40400 [.pI g.1, .pI g.2.1, .pI g.2.2.1, .p (.sl (.pr (.int .i64) (.sl (.int .i64)))) g.2.2.2, .pS w, .own 40401], (40401, [], .dict (.pr (.int .i64) t3) (.int .i64) l30400)] (fun ret38v => (⟨39, [s1 38 (.pS ret38v.1), sp 28 40400, sI 33 (g.1 + g.2.2.1), e33c23 w, sI 37 i], [e33c22 g w, (40401, [], .dict (.pr (.int .i64) t3) (.int .i64) ret38v.2)]⟩ : St)) rfl rfl (by kernel_rfl) rfl (by kernel_rfl) Try.call67 (by kernel_rfl) (by kernel_rfl) (by kernel_rfl) (fun _ _ => rfl) (fun _ => by kernel_rfl) (linkcr67 g.1 g.2.1 g.2.2.1 g.2.2.2 w (g.1 + g.2.2.1) (0 : Int) (w.length : Int) i l30400 _ h) (fun ret38v h => ?_)
        refine lpr (st' := (⟨39, [s1 38 (.pS ret38v.1)], []⟩ : St)) (by kernel_rfl) ?_
        refine rq 2 (ob := (Ts 2 True)) (st' := (⟨39, [s1 6 (.pS ret38v.1), sI 7 (0 : Int)], []⟩ : St)) (by kernel_rfl) (tsI 2 trivial) ?_
        refine nn ?_
        refine aw_ret ?_
        exact retQ_r (ob := Ts 2 True) _ (by kernel_rfl) (tsI 2 trivial) h
    ·refine sr ?_
     refine rq 2 (ob := (Ts 2 True)) (st' := (⟨87, [e33c24, e33c11 g, sp 5 5, e33c19, e33c10 w, sI 125 i, e33c14], [e33c7 w, e33c0 g, e33c3, e33c1 g w]⟩ : St)) (by kernel_rfl) (tsI 2 trivial) ?_
     refine nn ?_
     refine aw_seq ?_
     refine sr ?_
     refine rq 7 (ob := (Ts 7 True)) (st' := (⟨87, [e33c24, e33c11 g, sp 5 5, sB 19 (decide ((g.1 + g.2.2.1) < g.1)), e33c19, e33c10 w, sI 125 i, e33c14], [e33c7 w, e33c0 g, e33c3, e33c1 g w]⟩ : St)) (by kernel_rfl) (tsI 7 trivial) ?_
     refine nn ?_
     refine aw_cond (b := (decide ((g.1 + g.2.2.1) < g.1))) (by kernel_rfl) (fun hb => ?_) (fun hb => ?_)
     ·have h := h.1 hb
      refine aw_seq ?_
      refine aw_seq ?_
      refine awd_begin [] (by kernel_rfl) ?_
      obtain ⟨o1, o2, h⟩ := h
      refine drq (by kernel_rfl) [0, 1, 2, 3, 4, 5, 6, 7, 8, 9, 10, 11, 12, 13, 14, 15, 16, 17] (ob := (Ts 4 (InR ((0 : Int) + (1 : Int)) ∧ Ts 2 (Ti 6 ((decide ((w.length : Int) = ((0 : Int) + (1 : Int)))) = true → True) (((decide ((w.length : Int) = ((0 : Int) + (1 : Int)))) = true → inIdx (0 : Int) w.length) ∧ Ti 3 ((decide ((w.length : Int) = ((0 : Int) + (1 : Int)))) = true → True) (Ts 1 True)))))) (done' := [17, 16, 15, 14, 13, 12, 11, 10, 9, 8, 7, 6, 5, 4, 3, 2, 1, 0]) (st' := (⟨87, [sB 37 ((decide ((w.length : Int) = ((0 : Int) + (1 : Int)))) && (decide ((w.getD ((0 : Int)).toNat (0 : Int)) = (g.1 + g.2.2.1)))), e33c19, e33c10 w, sI 125 i, e33c14], [e33c0 g, e33c3, e33c1 g w]⟩ : St)) (by kernel_rfl) (tsI 4 (⟨o1, tsI 2 (tiI 6 (fun _ => trivial) ⟨o2, tiI 3 (fun _ => trivial) (tsI 1 trivial)⟩)⟩)) ?_
      refine awd_done (by kernel_rfl) ?_
      refine thenQ_n ?_
      refine aw_cond (b := ((decide ((w.length : Int) = ((0 : Int) + (1 : Int)))) && (decide ((w.getD ((0 : Int)).toNat (0 : Int)) = (g.1 + g.2.2.1))))) (by kernel_rfl) (fun hb => ?_) (fun hb => ?_)
      ·have h := h.1 hb
       refine sr ?_
       refine rq 1 (ob := (Ts 1 True)) (st' := (⟨87, [sI 6 (1 : Int), e33c19, e33c10 w, sI 125 i, e33c14], [e33c0 g, e33c3, e33c1 g w]⟩ : St)) (by kernel_rfl) (tsI 1 trivial) ?_
       refine nn ?_
       refine aw_ret ?_
       refine thenQ_r ?_
       refine thenQ_r ?_
       exact rest2 ((1 : Int), ([] : List ((Int × (Int × (Int × Int))) × Int))) h
      ·have h := h.2 hb
       refine aw_skip ?_
       refine thenQ_n ?_
       refine sr ?_
       refine rq 1 (ob := (Ts 1 True)) (st' := (⟨87, [sI 6 (0 : Int), e33c19, e33c10 w, sI 125 i, e33c14], [e33c0 g, e33c3, e33c1 g w]⟩ : St)) (by kernel_rfl) (tsI 1 trivial) ?_
       refine nn ?_
       refine aw_ret ?_
       refine thenQ_r ?_
       exact rest2 ((0 : Int), ([] : List ((Int × (Int × (Int × Int))) × Int))) h
     ·have h := h.2 hb
      refine aw_skip ?_
      refine thenQ_n ?_
      refine sr ?_
      refine rq 5 (ob := (Ts 5 True)) (st' := (⟨87, [e33c24, e33c11 g, sp 5 5, sp 7 7, e33c19, e33c10 w, sI 125 i, e33c14], [e33c7 w, e33c2 g w, e33c0 g, e33c3, e33c1 g w]⟩ : St)) (by kernel_rfl) (tsI 5 trivial) ?_
      refine nn ?_
      refine aw_seq ?_
      refine aw_seq ?_
      refine awd_begin [] (by kernel_rfl) ?_
      refine drq (by kernel_rfl) [0, 1, 2, 3, 4, 5, 6, 7, 8, 9, 10] (ob := (Ts 11 True)) (done' := [10, 9, 8, 7, 6, 5, 4, 3, 2, 1, 0]) (st' := (⟨87, [e33c24, e33c11 g, sp 5 5, sp 7 7, e33c18 g w, sB 9 ((mget ([] : List ((Int × (Int × (Int × Int))) × Int)) ((-1 : Int), ((g.1 + g.2.2.1), ((0 : Int), (w.length : Int))))).isSome), e33c19, e33c10 w, sI 125 i, e33c14], [e33c7 w, e33c2 g w, e33c0 g, e33c3, e33c1 g w]⟩ : St)) (by kernel_rfl) (tsI 11 trivial) ?_
      refine awd_done (by kernel_rfl) ?_
      refine thenQ_n ?_
      refine sr ?_
      refine rq 1 (ob := (Ts 1 True)) (st' := (⟨87, [e33c24, e33c11 g, sp 5 5, sp 7 7, e33c18 g w, sB 50 ((mget ([] : List ((Int × (Int × (Int × Int))) × Int)) ((-1 : Int), ((g.1 + g.2.2.1), ((0 : Int), (w.length : Int))))).isSome), e33c19, e33c10 w, sI 125 i, e33c14], [e33c7 w, e33c2 g w, e33c0 g, e33c3, e33c1 g w]⟩ : St)) (by kernel_rfl) (tsI 1 trivial) ?_
      refine nn ?_
      refine aw_cond (b := (mget ([] : List ((Int × (Int × (Int × Int))) × Int)) ((-1 : Int), ((g.1 + g.2.2.1), ((0 : Int), (w.length : Int))))).isSome) (by kernel_rfl) (fun hb => ?_) (fun hb => ?_)
      ·have h := h.1 hb
       refine sr ?_
       refine rq 2 (ob := (Ts 2 True)) (st' := (⟨87, [sI 6 ((mget ([] : List ((Int × (Int × (Int × Int))) × Int)) ((-1 : Int), ((g.1 + g.2.2.1), ((0 : Int), (w.length : Int))))).getD (0 : Int)), e33c19, e33c10 w, sI 125 i, e33c14], [e33c0 g, e33c3, e33c1 g w]⟩ : St)) (by kernel_rfl) (tsI 2 trivial) ?_
       refine nn ?_
       refine aw_ret ?_
       refine thenQ_r ?_
       exact rest2 (((mget ([] : List ((Int × (Int × (Int × Int))) × Int)) ((-1 : Int), ((g.1 + g.2.2.1), ((0 : Int), (w.length : Int))))).getD (0 : Int)), ([] : List ((Int × (Int × (Int × Int))) × Int))) h
      ·have h := h.2 hb
       refine aw_skip ?_
       refine thenQ_n ?_
       refine sr ?_
       refine rq 1 (ob := (Ts 1 True)) (st' := (⟨87, [e33c24, e33c11 g, sp 5 5, sp 7 7, sI 10 (0 : Int), e33c19, e33c10 w, sI 125 i, e33c14], [e33c7 w, e33c2 g w, e33c0 g, e33c3, e33c1 g w]⟩ : St)) (by kernel_rfl) (tsI 1 trivial) ?_
       refine nn ?_
       refine aw_seq ?_
       refine sr ?_
       refine rq 7 (ob := (Ts 7 True)) (st' := (⟨87, [e33c24, e33c11 g, sp 5 5, sp 7 7, sI 10 (0 : Int), e33c6 g, e33c13 g, sI 58 (0 : Int), e33c19, e33c10 w, sI 125 i, e33c14], [e33c7 w, e33c2 g w, e33c0 g, e33c3, e33c1 g w]⟩ : St)) (by kernel_rfl) (tsI 7 trivial) ?_
       refine nn ?_
       refine withJoin (σ := Int × (List ((Int × (Int × (Int × Int))) × Int))) (fun s => (⟨87, [e33c24, sp 7 7, sI 10 s.1, e33c19, e33c10 w, sI 125 i, e33c14], [e33c2 g w, e33c0 g, (30400, [], .dict (.pr (.int .i64) t3) (.int .i64) s.2), e33c1 g w]⟩ : St)) (fun s => VC33_k3 g w i K s.1 s.2) (fun s h => ?_) (fun rest3 => ?_)
       ·obtain ⟨n, l30400⟩ := s
        have h : VC33_k3 g w i K n l30400 := h
        unfold VC33_k3 at h
        refine thenQ_n ?_
        refine aw_seq ?_
        refine awd_begin [30400] (by kernel_rfl) ?_
        refine drq (by kernel_rfl) [0, 1, 2, 3, 4, 5] (ob := (Ts 6 True)) (done' := [5, 4, 3, 2, 1, 0]) (st' := (⟨87, [sI 10 n, s1 83 (.own 30400), sA 84 [.pI (-1 : Int), .pI (g.1 + g.2.2.1), .pI (0 : Int), .pI (w.length : Int)], sI 85 n, e33c19, e33c10 w, sI 125 i, e33c14], [e33c0 g, e33c8 l30400, e33c1 g w]⟩ : St)) (by kernel_rfl) (tsI 6 trivial) ?_
        refine awd_one (i := 6) (by kernel_rfl) ?_
        refine dsq (ob := True) (st' := (⟨87, [sI 10 n, e33c19, e33c10 w, sI 125 i, e33c14], [e33c0 g, (30400, [], .dict (.pr (.int .i64) t3) (.int .i64) (mset l30400 ((-1 : Int), ((g.1 + g.2.2.1), ((0 : Int), (w.length : Int)))) n)), e33c1 g w]⟩ : St)) rfl (by kernel_rfl) trivial ?_
        refine awd_done (by kernel_rfl) ?_
        refine thenQ_n ?_
        refine sr ?_
        refine rq 2 (ob := (Ts 2 True)) (st' := (⟨87, [sI 6 n, e33c19, e33c10 w, sI 125 i, e33c14], [e33c0 g, (30400, [], .dict (.pr (.int .i64) t3) (.int .i64) (mset l30400 ((-1 : Int), ((g.1 + g.2.2.1), ((0 : Int), (w.length : Int)))) n)), e33c1 g w]⟩ : St)) (by kernel_rfl) (tsI 2 trivial) ?_
        refine nn ?_
        refine aw_ret ?_
        exact rest2 (n, (mset l30400 ((-1 : Int), ((g.1 + g.2.2.1), ((0 : Int), (w.length : Int)))) n)) h
       ·refine aw_block ?_
        refine aw_loop (σ := Int × Int × (List ((Int × (Int × (Int × Int))) × Int))) (fun s => (⟨87, [e33c24, e33c11 g, sp 5 5, sp 7 7, sI 10 s.1, e33c6 g, e33c13 g, sI 58 s.2.1, e33c19, e33c10 w, sI 125 i, e33c14], [e33c7 w, e33c2 g w, e33c0 g, (30400, [], .dict (.pr (.int .i64) t3) (.int .i64) s.2.2), e33c1 g w]⟩ : St)) (fun s X => VC33_l1 g w i K s.1 s.2.1 s.2.2 X) (s0 := ((0 : Int), (0 : Int), ([] : List ((Int × (Int × (Int × Int))) × Int)))) (fun s X1 h => ?_) h
        obtain ⟨n, v58, l30400⟩ := s
        have h : VC33_l1 g w i K n v58 l30400 X1 := h
        unfold VC33_l1 at h
        refine sr ?_
        refine rq 1 (ob := (Ts 1 True)) (st' := (⟨87, [e33c24, e33c11 g, sp 5 5, sp 7 7, sI 10 n, e33c6 g, e33c13 g, sI 58 v58, sB 59 (decide (v58 < (g.2.2.2.length : Int))), e33c19, e33c10 w, sI 125 i, e33c14], [e33c7 w, e33c2 g w, e33c0 g, e33c8 l30400, e33c1 g w]⟩ : St)) (by kernel_rfl) (tsI 1 trivial) ?_
        refine nn ?_
        refine aw_seq ?_
        refine aw_cond (b := (decide (v58 < (g.2.2.2.length : Int)))) (by kernel_rfl) (fun hb => ?_) (fun hb => ?_)
        ·have h := h.1 hb
         refine aw_skip ?_
         refine thenQ_n ?_
         refine aw_seq ?_
         refine aw_block ?_
         refine sr ?_
         obtain ⟨o1, h⟩ := h
         refine rq 6 (ob := (Ts 1 (inIdx v58 g.2.2.2.length ∧ Ts 4 True))) (st' := (⟨87, [e33c24, e33c11 g, sp 5 5, sp 7 7, sI 10 n, sI 11 v58, sp 12 12, e33c6 g, e33c13 g, sI 58 v58, e33c19, e33c10 w, sI 125 i, e33c14], [e33c7 w, e33c2 g w, hB 12 [.pI ((g.2.2.2.getD (v58).toNat ((0 : Int), ([] : LI))).1), .pS ((g.2.2.2.getD (v58).toNat ((0 : Int), ([] : LI))).2)], e33c0 g, e33c8 l30400, e33c1 g w]⟩ : St)) (by kernel_rfl) (tsI 1 ⟨o1, tsI 4 trivial⟩) ?_
         refine nn ?_
         refine aw_seq ?_
         refine awd_begin [] (by kernel_rfl) ?_
         obtain ⟨o1, h⟩ := h
         refine drq (by kernel_rfl) [0, 1, 2, 3, 4, 5, 6, 7, 8, 9] (ob := (Ts 8 (InR ((g.1 + g.2.2.1) - g.1) ∧ Ts 1 True))) (done' := [9, 8, 7, 6, 5, 4, 3, 2, 1, 0]) (st' := (⟨87, [e33c24, e33c11 g, sp 5 5, sp 7 7, sI 10 n, sI 11 v58, e33c6 g, e33c13 g, sI 58 v58, sB 72 (decide ((g.2.2.2.getD (v58).toNat ((0 : Int), ([] : LI))).1 = ((g.1 + g.2.2.1) - g.1))), e33c19, e33c10 w, sI 125 i, e33c14], [e33c7 w, e33c2 g w, e33c0 g, e33c8 l30400, e33c1 g w]⟩ : St)) (by kernel_rfl) (tsI 8 ⟨o1, tsI 1 trivial⟩) ?_
         refine awd_done (by kernel_rfl) ?_
         refine thenQ_n ?_
         refine withJoin (σ := Int × (List ((Int × (Int × (Int × Int))) × Int))) (fun s => (⟨87, [sp 0 40200, e33c11 g, sp 5 5, sp 7 7, sI 10 s.1, e33c6 g, e33c13 g, sI 58 v58, sp 95 40200, e33c10 w, sI 125 i, e33c14], [e33c7 w, e33c2 g w, e33c0 g, e33c5 g w, (40201, [], .dict (.pr (.int .i64) t3) (.int .i64) s.2)]⟩ : St)) (fun s => VC33_k4 v58 X1 s.1 s.2) (fun s h => ?_) (fun rest4 => ?_)
         ·obtain ⟨n2, l40201⟩ := s
          have h : VC33_k4 v58 X1 n2 l40201 := h
          unfold VC33_k4 at h
          refine blockQ_n ?_
          refine thenQ_n ?_
          refine aw_region ?_
          obtain ⟨o1, h⟩ := h
          refine rq 2 (ob := (InR (v58 + (1 : Int)) ∧ Ts 1 True)) (st' := (⟨87, [sp 0 40200, e33c11 g, sp 5 5, sp 7 7, sI 10 n2, e33c6 g, e33c13 g, sI 58 (v58 + (1 : Int)), sp 95 40200, e33c10 w, sI 125 i, e33c14], [e33c7 w, e33c2 g w, e33c0 g, e33c5 g w, (40201, [], .dict (.pr (.int .i64) t3) (.int .i64) l40201)]⟩ : St)) (by kernel_rfl) (⟨o1, tsI 1 trivial⟩) ?_
          refine awl_conv [.ren 40200 60200, .ren 40201 60201, .ren 60200 30401, .ren 60201 30400, .prune [0, 1, 5, 7, 10, 56, 57, 58, 95, 124, 125, 126] [5, 7, 30000, 30400, 30401]] (st' := (⟨87, [e33c24, e33c11 g, sp 5 5, sp 7 7, sI 10 n2, e33c6 g, e33c13 g, sI 58 (v58 + (1 : Int)), e33c19, e33c10 w, sI 125 i, e33c14], [e33c7 w, e33c2 g w, e33c0 g, (30400, [], .dict (.pr (.int .i64) t3) (.int .i64) l40201), e33c1 g w]⟩ : St)) (by kernel_rfl) ?_
          refine awl_nil ?_
          exact thenQ_n ⟨(n2, (v58 + (1 : Int)), l40201), rfl, h⟩
         ·refine aw_cond (b := (decide ((g.2.2.2.getD (v58).toNat ((0 : Int), ([] : LI))).1 = ((g.1 + g.2.2.1) - g.1)))) (by kernel_rfl) (fun hb => ?_) (fun hb => ?_)
          ·have h := h.1 hb
           refine aw_region ?_
           refine rq 4 (ob := (Ts 4 True)) (st' := (⟨87, [e33c24, e33c11 g, sp 5 5, sp 7 7, e33c6 g, e33c13 g, sI 58 v58, sI 73 n, sp 74 30401, sI 75 v58, e33c25 w, e33c19, e33c10 w, sI 125 i, e33c14], [e33c7 w, e33c2 g w, e33c0 g, e33c8 l30400, e33c1 g w]⟩ : St)) (by kernel_rfl) (tsI 4 trivial) ?_
           refine awl_conv [.ren 30401 40200, .ren 30400 40201] (st' := (⟨87, [sp 0 40200, e33c11 g, sp 5 5, sp 7 7, e33c6 g, e33c13 g, sI 58 v58, sI 73 n, sp 74 40200, sI 75 v58, e33c25 w, sp 95 40200, e33c10 w, sI 125 i, e33c14], [e33c7 w, e33c2 g w, e33c0 g, (40201, [], .dict (.pr (.int .i64) t3) (.int .i64) l30400), e33c5 g w]⟩ : St)) (by kernel_rfl) ?_
           refine awl_lcall (σ := Int × (List ((Int × (Int × (Int × Int))) × Int))) [40200, 40201] [40200] [.c (.ptr 40200 0), .c (.pI v58), .c (.pI (0 : Int)), .agg [.pI (0 : Int), .pI (w.length : Int)]] [] (fun ret77v => .v (.c (.pI ret77v.1))) (fun ret77v => [hB 40200 [.pI g.1, .pI g.2.1, .pI g.2.2.1, .p (.sl (.pr (.int .i64) (.sl (.int .i64)))) g.2.2.2, .pS w, .own 40201], (40201, [], .dict (.pr (.int .i64) t3) (.int .i64) ret77v.2)]) (fun (ret77v : Int × (List ((Int × (Int × (Int × Int))) × Int))) => VC109 n ret77v.1 (fun (ret78v : Int) => VC33_k4 v58 X1 ret78v ret77v.2)) [hB 40200 [.pI g.1, .pI g.2.1, .pI g.2.2.1, .p (.sl (.pr (.int .i64) (.sl (.int .i64)))) g.2.2.2, .pS w, .own 40201], (40201, [], .dict (.pr (.int .i64) t3) (.int .i64) l30400)] (fun ret77v => (⟨87, [sI 77 ret77v.1, sp 0 40200, e33c11 g, sp 5 5, sp 7 7, e33c6 g, e33c13 g, sI 58 v58, sI 73 n, sp 74 40200, sI 75 v58, e33c25 w, sp 95 40200, e33c10 w, sI 125 i, e33c14], [e33c5 g w, e33c21 ret77v, e33c7 w, e33c2 g w, e33c0 g]⟩ : St)) rfl rfl (by kernel_rfl) rfl (by kernel_rfl) Try.call100 (by kernel_rfl) (by kernel_rfl) (by kernel_rfl) (fun _ _ => rfl) (fun _ => by kernel_rfl) (linkcr100 g.1 g.2.1 g.2.2.1 g.2.2.2 w v58 (0 : Int) (0 : Int) (w.length : Int) l30400 _ h) (fun ret77v h => ?_)
           refine lpr (st' := (⟨87, [sp 0 40200, e33c11 g, sp 5 5, sp 7 7, e33c6 g, e33c13 g, sI 58 v58, sI 73 n, sI 77 ret77v.1, sp 95 40200, e33c10 w, sI 125 i, e33c14], [e33c7 w, e33c2 g w, e33c0 g, e33c5 g w, e33c21 ret77v]⟩ : St)) (by kernel_rfl) ?_
           refine lcq (d := 78) [.d (.int .i64), .d (.int .i64)] (fun ret78v => (⟨87, [sp 0 40200, e33c11 g, sp 5 5, sp 7 7, e33c6 g, e33c13 g, sI 58 v58, sI 78 ret78v, sp 95 40200, e33c10 w, sI 125 i, e33c14], [e33c7 w, e33c2 g w, e33c0 g, e33c5 g w, e33c21 ret77v]⟩ : St)) (by kernel_rfl) Try.call109 (fun _ => by kernel_rfl) (link109 n ret77v.1 _ h) (fun ret78v h => ?_)
           refine rq 1 (ob := (Ts 1 True)) (st' := (⟨87, [sp 0 40200, e33c11 g, sp 5 5, sp 7 7, sI 10 ret78v, e33c6 g, e33c13 g, sI 58 v58, sp 95 40200, e33c10 w, sI 125 i, e33c14], [e33c7 w, e33c2 g w, e33c0 g, e33c5 g w, e33c21 ret77v]⟩ : St)) (by kernel_rfl) (tsI 1 trivial) ?_
           refine awl_nil ?_
           exact rest4 (ret78v, ret77v.2) h
          ·have h := h.2 hb
           refine aw_conv [.prune [0, 1, 5, 7, 10, 56, 57, 58, 95, 124, 125, 126] [5, 7, 30000, 30400, 30401], .ren 30401 50401, .ren 30400 50400, .ren 50401 40200, .ren 50400 40201, .prune [0, 1, 5, 7, 10, 56, 57, 58, 95, 124, 125, 126] [5, 7, 30000, 40200, 40201]] (st' := (⟨87, [sp 0 40200, e33c11 g, sp 5 5, sp 7 7, sI 10 n, e33c6 g, e33c13 g, sI 58 v58, sp 95 40200, e33c10 w, sI 125 i, e33c14], [e33c7 w, e33c2 g w, e33c0 g, e33c5 g w, (40201, [], .dict (.pr (.int .i64) t3) (.int .i64) l30400)]⟩ : St)) (by kernel_rfl) ?_
           refine aw_skip ?_
           exact rest4 (n, l30400) h
        ·have h := h.2 hb
         refine cpr (st' := (⟨87, [e33c24, sp 7 7, sI 10 n, e33c19, e33c10 w, sI 125 i, e33c14], [e33c2 g w, e33c0 g, e33c8 l30400, e33c1 g w]⟩ : St)) (by kernel_rfl) ?_
         refine aw_exit ?_
         refine thenQ_x ?_
         refine thenQ_x ?_
         refine blockQ_hit ?_
         exact rest3 (n, l30400) h

abbrev e43_0 (g : (Int × (Int × (Int × (List (Int × LI)))))) : Nat × Path × Con := hB 2 [.pI g.1, .pI g.2.1, .pI g.2.2.1, .p (.sl (.pr (.int .i64) (.sl (.int .i64)))) g.2.2.2]
abbrev e43_1 (l : LI) : Nat × Path × AV := sI 8 (l.length : Int)
-- coppicer/coppicerref.Signs
def VC43_k1 (K : Bool → Prop) : Prop :=
  K true

def VC43_l1 (g : (Int × (Int × (Int × (List (Int × LI)))))) (l : LI) (K : Bool → Prop) (v9 : Int) (X1 : Int → Prop) : Prop :=
  (((decide (v9 < (l.length : Int))) = true → (inIdx v9 l.length ∧ (((decide ((l.getD (v9).toNat (0 : Int)) < (0 : Int))) = false → InR (g.1 + g.2.1)) ∧ ((((decide ((l.getD (v9).toNat (0 : Int)) < (0 : Int))) || (decide ((g.1 + g.2.1) ≤ (l.getD (v9).toNat (0 : Int))))) = true → K false) ∧ (((decide ((l.getD (v9).toNat (0 : Int)) < (0 : Int))) || (decide ((g.1 + g.2.1) ≤ (l.getD (v9).toNat (0 : Int))))) = false → (InR (v9 + (1 : Int)) ∧ X1 (v9 + (1 : Int)))))))) ∧ ((decide (v9 < (l.length : Int))) = false → VC43_k1 K))

def VC43 (g : (Int × (Int × (Int × (List (Int × LI)))))) (l : LI) (K : Bool → Prop) : Prop :=
  Loop (σ := Int) (fun s X => VC43_l1 g l K s X) (0 : Int)

set_option maxHeartbeats 4000000 in
theorem link43 (g : (Int × (Int × (Int × (List (Int × LI)))))) (l : LI) (K : Bool → Prop) (h : VC43 g l K) : ACalls Try.prog 43 [toV1 (.pr (.int .i64) (.pr (.int .i64) (.pr (.int .i64) (.sl (.pr (.int .i64) (.sl (.int .i64))))))) g, toV1 (.sl (.int .i64)) l] (fun res => ∃ y, res = (fun y => [toV1 .bool y]) y ∧ K y) := by
 refine acalls_of_aw [.bool] [.t 4] Try.func43 rfl rfl rfl ?_
 unfold VC43 at h
 refine sr ?_
 refine rq 2 (ob := (Ts 2 True)) (st' := (⟨25, [s1 1 (.pS l), sp 2 2], [e43_0 g]⟩ : St)) (by kernel_rfl) (tsI 2 trivial) ?_
 refine nn ?_
 refine aw_seq ?_
 refine sr ?_
 refine rq 3 (ob := (Ts 3 True)) (st' := (⟨25, [sp 2 2, s1 7 (.pS l), e43_1 l, sI 9 (0 : Int)], [e43_0 g]⟩ : St)) (by kernel_rfl) (tsI 3 trivial) ?_
 refine nn ?_
 refine withJoin (σ := Unit) (fun s => (⟨25, [], []⟩ : St)) (fun s => VC43_k1 K) (fun s h => ?_) (fun rest1 => ?_)
 ·have h : VC43_k1 K := h
  unfold VC43_k1 at h
  refine thenQ_n ?_
  refine sr ?_
  refine rq 1 (ob := (Ts 1 True)) (st' := (⟨25, [sB 4 true], []⟩ : St)) (by kernel_rfl) (tsI 1 trivial) ?_
  refine nn ?_
  refine aw_ret ?_
  exact retQ_r (ob := Ts 1 True) _ (by kernel_rfl) (tsI 1 trivial) h
 ·refine aw_block ?_
  refine aw_loop (σ := Int) (fun s => (⟨25, [sp 2 2, s1 7 (.pS l), e43_1 l, sI 9 s], [e43_0 g]⟩ : St)) (fun s X => VC43_l1 g l K s X) (s0 := (0 : Int)) (fun v9 X1 h => ?_) h
  have h : VC43_l1 g l K v9 X1 := h
  unfold VC43_l1 at h
  refine sr ?_
  refine rq 1 (ob := (Ts 1 True)) (st' := (⟨25, [sp 2 2, s1 7 (.pS l), e43_1 l, sI 9 v9, sB 10 (decide (v9 < (l.length : Int)))], [e43_0 g]⟩ : St)) (by kernel_rfl) (tsI 1 trivial) ?_
  refine nn ?_
  refine aw_seq ?_
  refine aw_cond (b := (decide (v9 < (l.length : Int)))) (by kernel_rfl) (fun hb => ?_) (fun hb => ?_)
  ·have h := h.1 hb
   refine aw_skip ?_
   refine thenQ_n ?_
   refine aw_seq ?_
   refine aw_block ?_
   refine sr ?_
   obtain ⟨o1, h⟩ := h
   refine rq 3 (ob := (inIdx v9 l.length ∧ Ts 2 True)) (st' := (⟨25, [sp 2 2, sI 6 (l.getD (v9).toNat (0 : Int)), s1 7 (.pS l), e43_1 l, sI 9 v9], [e43_0 g]⟩ : St)) (by kernel_rfl) (⟨o1, tsI 2 trivial⟩) ?_
   refine nsr ?_
   obtain ⟨o1, h⟩ := h
   refine rq 11 (ob := (Ts 3 (Ti 5 ((decide ((l.getD (v9).toNat (0 : Int)) < (0 : Int))) = false → True) (((decide ((l.getD (v9).toNat (0 : Int)) < (0 : Int))) = false → InR (g.1 + g.2.1)) ∧ ((decide ((l.getD (v9).toNat (0 : Int)) < (0 : Int))) = false → True) ∧ Ts 1 True)))) (st' := (⟨25, [sp 2 2, s1 7 (.pS l), e43_1 l, sI 9 v9, sB 23 ((decide ((l.getD (v9).toNat (0 : Int)) < (0 : Int))) || (decide ((g.1 + g.2.1) ≤ (l.getD (v9).toNat (0 : Int)))))], [e43_0 g]⟩ : St)) (by kernel_rfl) (tsI 3 (tiI 5 (fun _ => trivial) (⟨o1, ⟨(fun _ => trivial), tsI 1 trivial⟩⟩))) ?_
   refine nn ?_
   refine aw_cond (b := ((decide ((l.getD (v9).toNat (0 : Int)) < (0 : Int))) || (decide ((g.1 + g.2.1) ≤ (l.getD (v9).toNat (0 : Int)))))) (by kernel_rfl) (fun hb => ?_) (fun hb => ?_)
   ·have h := h.1 hb
    refine sr ?_
    refine rq 1 (ob := (Ts 1 True)) (st' := (⟨25, [sB 4 false], []⟩ : St)) (by kernel_rfl) (tsI 1 trivial) ?_
    refine nn ?_
    refine aw_ret ?_
    refine blockQ_r ?_
    refine thenQ_r ?_
    refine thenQ_r ?_
    refine blockQ_r ?_
    refine thenQ_r ?_
    exact retQ_r (ob := Ts 1 True) _ (by kernel_rfl) (tsI 1 trivial) h
   ·have h := h.2 hb
    refine aw_skip ?_
    refine blockQ_n ?_
    refine thenQ_n ?_
    refine aw_region ?_
    obtain ⟨o1, h⟩ := h
    refine rq 2 (ob := (InR (v9 + (1 : Int)) ∧ Ts 1 True)) (st' := (⟨25, [sp 2 2, s1 7 (.pS l), e43_1 l, sI 9 (v9 + (1 : Int))], [e43_0 g]⟩ : St)) (by kernel_rfl) (⟨o1, tsI 1 trivial⟩) ?_
    refine awl_nil ?_
    exact thenQ_n ⟨(v9 + (1 : Int)), rfl, h⟩
  ·have h := h.2 hb
   refine cpr (st' := (⟨25, [], []⟩ : St)) (by kernel_rfl) ?_
   refine aw_exit ?_
   refine thenQ_x ?_
   refine thenQ_x ?_
   refine blockQ_hit ?_
   exact rest1 () h

abbrev e18_0 (g : (Int × (Int × (Int × (List (Int × LI)))))) : Nat × Path × Con := hB 1 [.pI g.1, .pI g.2.1, .pI g.2.2.1, .p (.sl (.pr (.int .i64) (.sl (.int .i64)))) g.2.2.2]
abbrev e18_1 (g : (Int × (Int × (Int × (List (Int × LI)))))) : Nat × Path × AV := s1 54 (.p (.sl (.pr (.int .i64) (.sl (.int .i64)))) g.2.2.2)
abbrev e18_2 (g : (Int × (Int × (Int × (List (Int × LI)))))) : Nat × Path × AV := s1 32 (.p (.sl (.pr (.int .i64) (.sl (.int .i64)))) g.2.2.2)
abbrev e18_3 (g : (Int × (Int × (Int × (List (Int × LI)))))) (v56 : Int) : Nat × Path × AV := sB 70 ((decide ((g.2.2.2.getD (v56).toNat ((0 : Int), ([] : LI))).1 < (0 : Int))) || (decide (g.2.1 ≤ (g.2.2.2.getD (v56).toNat ((0 : Int), ([] : LI))).1)))
abbrev e18_4 (g : (Int × (Int × (Int × (List (Int × LI)))))) : Nat × Path × AV := sI 55 (g.2.2.2.length : Int)
abbrev e18_5 (g : (Int × (Int × (Int × (List (Int × LI)))))) : Nat × Path × AV := sI 33 (g.2.2.2.length : Int)
-- coppicer/coppicerref.GrammarCheck
def VC18_k2 (K : Int → Prop) : Prop :=
  K (0 : Int)

def VC18_l1 (g : (Int × (Int × (Int × (List (Int × LI)))))) (K : Int → Prop) (v56 : Int) (X1 : Int → Prop) : Prop :=
  (((decide (v56 < (g.2.2.2.length : Int))) = true → (inIdx v56 g.2.2.2.length ∧ gcall (α := Bool) (!((decide ((g.2.2.2.getD (v56).toNat ((0 : Int), ([] : LI))).1 < (0 : Int))) || (decide (g.2.1 ≤ (g.2.2.2.getD (v56).toNat ((0 : Int), ([] : LI))).1)))) (VC43 g ((g.2.2.2.getD (v56).toNat ((0 : Int), ([] : LI))).2)) false (fun (ret74v : Bool) => (((((decide ((g.2.2.2.getD (v56).toNat ((0 : Int), ([] : LI))).1 < (0 : Int))) || (decide (g.2.1 ≤ (g.2.2.2.getD (v56).toNat ((0 : Int), ([] : LI))).1))) || (!ret74v)) = true → K (2 : Int)) ∧ ((((decide ((g.2.2.2.getD (v56).toNat ((0 : Int), ([] : LI))).1 < (0 : Int))) || (decide (g.2.1 ≤ (g.2.2.2.getD (v56).toNat ((0 : Int), ([] : LI))).1))) || (!ret74v)) = false → (InR (v56 + (1 : Int)) ∧ X1 (v56 + (1 : Int)))))))) ∧ ((decide (v56 < (g.2.2.2.length : Int))) = false → VC18_k2 K))

def VC18_k1 (g : (Int × (Int × (Int × (List (Int × LI)))))) (K : Int → Prop) : Prop :=
  ((((decide (g.2.2.1 < (0 : Int))) || (decide (g.2.1 ≤ g.2.2.1))) = true → K (2 : Int)) ∧ (((decide (g.2.2.1 < (0 : Int))) || (decide (g.2.1 ≤ g.2.2.1))) = false → Loop (σ := Int) (fun s X => VC18_l1 g K s X) (0 : Int)))

def VC18_l2 (g : (Int × (Int × (Int × (List (Int × LI)))))) (K : Int → Prop) (v34 : Int) (X2 : Int → Prop) : Prop :=
  (((decide (v34 < (g.2.2.2.length : Int))) = true → (inIdx v34 g.2.2.2.length ∧ (((decide ((4 : Int) < (((g.2.2.2.getD (v34).toNat ((0 : Int), ([] : LI))).2).length : Int))) = true → K (1 : Int)) ∧ ((decide ((4 : Int) < (((g.2.2.2.getD (v34).toNat ((0 : Int), ([] : LI))).2).length : Int))) = false → (InR (v34 + (1 : Int)) ∧ X2 (v34 + (1 : Int))))))) ∧ ((decide (v34 < (g.2.2.2.length : Int))) = false → VC18_k1 g K))

def VC18 (g : (Int × (Int × (Int × (List (Int × LI)))))) (K : Int → Prop) : Prop :=
  (((((((decide (g.1 < (1 : Int))) || (decide ((3 : Int) < g.1))) || (decide (g.2.1 < (1 : Int)))) || (decide ((5 : Int) < g.2.1))) || (decide ((10 : Int) < (g.2.2.2.length : Int)))) = true → K (1 : Int)) ∧ ((((((decide (g.1 < (1 : Int))) || (decide ((3 : Int) < g.1))) || (decide (g.2.1 < (1 : Int)))) || (decide ((5 : Int) < g.2.1))) || (decide ((10 : Int) < (g.2.2.2.length : Int)))) = false → Loop (σ := Int) (fun s X => VC18_l2 g K s X) (0 : Int)))

set_option maxHeartbeats 4000000 in
theorem link18 (g : (Int × (Int × (Int × (List (Int × LI)))))) (K : Int → Prop) (h : VC18 g K) : ACalls Try.prog 18 [toV1 (.pr (.int .i64) (.pr (.int .i64) (.pr (.int .i64) (.sl (.pr (.int .i64) (.sl (.int .i64))))))) g] (fun res => ∃ y, res = (fun y => [toV1 (.int .i64) y]) y ∧ K y) := by
 refine acalls_of_aw [(.int .i64)] [.t 2] Try.func18 rfl rfl rfl ?_
 unfold VC18 at h
 refine sr ?_
 refine rq 2 (ob := (Ts 2 True)) (st' := (⟨78, [sp 1 1], [e18_0 g]⟩ : St)) (by kernel_rfl) (tsI 2 trivial) ?_
 refine nn ?_
 refine aw_seq ?_
 refine sr ?_
 refine rq 24 (ob := (Ts 4 (Ti 3 ((decide (g.1 < (1 : Int))) = false → True) (Ts 2 (Ti 3 (((decide (g.1 < (1 : Int))) || (decide ((3 : Int) < g.1))) = false → True) (Ts 2 (Ti 3 ((((decide (g.1 < (1 : Int))) || (decide ((3 : Int) < g.1))) || (decide (g.2.1 < (1 : Int)))) = false → True) (Ts 2 (Ti 4 (((((decide (g.1 < (1 : Int))) || (decide ((3 : Int) < g.1))) || (decide (g.2.1 < (1 : Int)))) || (decide ((5 : Int) < g.2.1))) = false → True) (Ts 1 True)))))))))) (st' := (⟨78, [sp 1 1, sB 30 (((((decide (g.1 < (1 : Int))) || (decide ((3 : Int) < g.1))) || (decide (g.2.1 < (1 : Int)))) || (decide ((5 : Int) < g.2.1))) || (decide ((10 : Int) < (g.2.2.2.length : Int))))], [e18_0 g]⟩ : St)) (by kernel_rfl) (tsI 4 (tiI 3 (fun _ => trivial) (tsI 2 (tiI 3 (fun _ => trivial) (tsI 2 (tiI 3 (fun _ => trivial) (tsI 2 (tiI 4 (fun _ => trivial) (tsI 1 trivial))))))))) ?_
 refine nn ?_
 refine aw_cond (b := (((((decide (g.1 < (1 : Int))) || (decide ((3 : Int) < g.1))) || (decide (g.2.1 < (1 : Int)))) || (decide ((5 : Int) < g.2.1))) || (decide ((10 : Int) < (g.2.2.2.length : Int))))) (by kernel_rfl) (fun hb => ?_) (fun hb => ?_)
 ·have h := h.1 hb
  refine sr ?_
  refine rq 1 (ob := (Ts 1 True)) (st' := (⟨78, [sI 2 (1 : Int)], []⟩ : St)) (by kernel_rfl) (tsI 1 trivial) ?_
  refine nn ?_
  refine aw_ret ?_
  refine thenQ_r ?_
  exact retQ_r (ob := Ts 1 True) _ (by kernel_rfl) (tsI 1 trivial) h
 ·have h := h.2 hb
  refine aw_skip ?_
  refine thenQ_n ?_
  refine aw_seq ?_
  refine sr ?_
  refine rq 4 (ob := (Ts 4 True)) (st' := (⟨78, [sp 1 1, e18_2 g, e18_5 g, sI 34 (0 : Int)], [e18_0 g]⟩ : St)) (by kernel_rfl) (tsI 4 trivial) ?_
  refine nn ?_
  refine withJoin (σ := Unit) (fun s => (⟨78, [sp 1 1], [e18_0 g]⟩ : St)) (fun s => VC18_k1 g K) (fun s h => ?_) (fun rest2 => ?_)
  ·have h : VC18_k1 g K := h
   unfold VC18_k1 at h
   refine thenQ_n ?_
   refine aw_seq ?_
   refine sr ?_
   refine rq 10 (ob := (Ts 4 (Ti 5 ((decide (g.2.2.1 < (0 : Int))) = false → True) (Ts 1 True)))) (st' := (⟨78, [sp 1 1, sB 52 ((decide (g.2.2.1 < (0 : Int))) || (decide (g.2.1 ≤ g.2.2.1)))], [e18_0 g]⟩ : St)) (by kernel_rfl) (tsI 4 (tiI 5 (fun _ => trivial) (tsI 1 trivial))) ?_
   refine nn ?_
   refine aw_cond (b := ((decide (g.2.2.1 < (0 : Int))) || (decide (g.2.1 ≤ g.2.2.1)))) (by kernel_rfl) (fun hb => ?_) (fun hb => ?_)
   ·have h := h.1 hb
    refine sr ?_
    refine rq 1 (ob := (Ts 1 True)) (st' := (⟨78, [sI 2 (2 : Int)], []⟩ : St)) (by kernel_rfl) (tsI 1 trivial) ?_
    refine nn ?_
    refine aw_ret ?_
    refine thenQ_r ?_
    exact retQ_r (ob := Ts 1 True) _ (by kernel_rfl) (tsI 1 trivial) h
   ·have h := h.2 hb
    refine aw_skip ?_
    refine thenQ_n ?_
    refine aw_seq ?_
    refine sr ?_
    refine rq 4 (ob := (Ts 4 True)) (st' := (⟨78, [sp 1 1, e18_1 g, e18_4 g, sI 56 (0 : Int)], [e18_0 g]⟩ : St)) (by kernel_rfl) (tsI 4 trivial) ?_
    refine nn ?_
    refine withJoin (σ := Unit) (fun s => (⟨78, [], []⟩ : St)) (fun s => VC18_k2 K) (fun s h => ?_) (fun rest1 => ?_)
    ·have h : VC18_k2 K := h
     unfold VC18_k2 at h
     refine thenQ_n ?_
     refine sr ?_
     refine rq 1 (ob := (Ts 1 True)) (st' := (⟨78, [sI 2 (0 : Int)], []⟩ : St)) (by kernel_rfl) (tsI 1 trivial) ?_
     refine nn ?_
     refine aw_ret ?_
     exact retQ_r (ob := Ts 1 True) _ (by kernel_rfl) (tsI 1 trivial) h
    ·refine aw_block ?_
     refine aw_loop (σ := Int) (fun s => (⟨78, [sp 1 1, e18_1 g, e18_4 g, sI 56 s], [e18_0 g]⟩ : St)) (fun s X => VC18_l1 g K s X) (s0 := (0 : Int)) (fun v56 X1 h => ?_) h
     have h : VC18_l1 g K v56 X1 := h
     unfold VC18_l1 at h
     refine sr ?_
     refine rq 1 (ob := (Ts 1 True)) (st' := (⟨78, [sp 1 1, e18_1 g, e18_4 g, sI 56 v56, sB 57 (decide (v56 < (g.2.2.2.length : Int)))], [e18_0 g]⟩ : St)) (by kernel_rfl) (tsI 1 trivial) ?_
     refine nn ?_
     refine aw_seq ?_
     refine aw_cond (b := (decide (v56 < (g.2.2.2.length : Int)))) (by kernel_rfl) (fun hb => ?_) (fun hb => ?_)
     ·have h := h.1 hb
      refine aw_skip ?_
      refine thenQ_n ?_
      refine aw_seq ?_
      refine aw_block ?_
      refine sr ?_
      obtain ⟨o1, h⟩ := h
      refine rq 4 (ob := (inIdx v56 g.2.2.2.length ∧ Ts 3 True)) (st' := (⟨78, [sp 1 1, sp 6 6, e18_1 g, e18_4 g, sI 56 v56], [e18_0 g, hB 6 [.pI ((g.2.2.2.getD (v56).toNat ((0 : Int), ([] : LI))).1), .pS ((g.2.2.2.getD (v56).toNat ((0 : Int), ([] : LI))).2)]]⟩ : St)) (by kernel_rfl) (⟨o1, tsI 3 trivial⟩) ?_
      refine nsr ?_
      refine rq 14 (ob := (Ts 4 (Ti 5 ((decide ((g.2.2.2.getD (v56).toNat ((0 : Int), ([] : LI))).1 < (0 : Int))) = false → True) (Ts 2 (Ti 3 (((decide ((g.2.2.2.getD (v56).toNat ((0 : Int), ([] : LI))).1 < (0 : Int))) || (decide (g.2.1 ≤ (g.2.2.2.getD (v56).toNat ((0 : Int), ([] : LI))).1))) = false → True) True))))) (st' := (⟨78, [sp 1 1, e18_1 g, e18_4 g, sI 56 v56, e18_3 g v56, (71, [(70, false)], .v (.agg [.pI g.1, .pI g.2.1, .pI g.2.2.1, .p (.sl (.pr (.int .i64) (.sl (.int .i64)))) g.2.2.2])), (73, [(70, false)], .v (.c (.pS ((g.2.2.2.getD (v56).toNat ((0 : Int), ([] : LI))).2))))], [e18_0 g]⟩ : St)) (by kernel_rfl) (tsI 4 (tiI 5 (fun _ => trivial) (tsI 2 (tiI 3 (fun _ => trivial) trivial)))) ?_
      refine awl_callk (p := [(70, false)]) (l := [toV1 (.pr (.int .i64) (.pr (.int .i64) (.pr (.int .i64) (.sl (.pr (.int .i64) (.sl (.int .i64))))))) g, toV1 (.sl (.int .i64)) ((g.2.2.2.getD (v56).toNat ((0 : Int), ([] : LI))).2)]) (cl := []) false [.d (.pr (.int .i64) (.pr (.int .i64) (.pr (.int .i64) (.sl (.pr (.int .i64) (.sl (.int .i64))))))), .d (.sl (.int .i64))] [1, 54, 55, 56, 70, 74] [1] (fun (ret74v : Bool) => (((((decide ((g.2.2.2.getD (v56).toNat ((0 : Int), ([] : LI))).1 < (0 : Int))) || (decide (g.2.1 ≤ (g.2.2.2.getD (v56).toNat ((0 : Int), ([] : LI))).1))) || (!ret74v)) = true → K (2 : Int)) ∧ ((((decide ((g.2.2.2.getD (v56).toNat ((0 : Int), ([] : LI))).1 < (0 : Int))) || (decide (g.2.1 ≤ (g.2.2.2.getD (v56).toNat ((0 : Int), ([] : LI))).1))) || (!ret74v)) = false → (InR (v56 + (1 : Int)) ∧ X1 (v56 + (1 : Int)))))) (fun ret74v => [toV1 .bool ret74v]) (fun ret74v => (⟨78, [sp 1 1, e18_1 g, e18_4 g, sI 56 v56, e18_3 g v56, (74, [(70, false)], .v (.c (.pB ret74v)))], [e18_0 g]⟩ : St)) (by kernel_rfl) rfl (by kernel_rfl) rfl (by kernel_rfl) Try.call43 (by kernel_rfl) (fun ret74v => by kernel_rfl) (fun e => by cases e) (fun hg => link43 g ((g.2.2.2.getD (v56).toNat ((0 : Int), ([] : LI))).2) _ (by have := gcall_T h (show (!((decide ((g.2.2.2.getD (v56).toNat ((0 : Int), ([] : LI))).1 < (0 : Int))) || (decide (g.2.1 ≤ (g.2.2.2.getD (v56).toNat ((0 : Int), ([] : LI))).1)))) = true from hg); exact this)) (fun hg => ⟨false, by have := gcall_F h (show (!((decide ((g.2.2.2.getD (v56).toNat ((0 : Int), ([] : LI))).1 < (0 : Int))) || (decide (g.2.1 ≤ (g.2.2.2.getD (v56).toNat ((0 : Int), ([] : LI))).1)))) = false from hg); exact this⟩) (fun ret74v h => ?_)
      refine rq 2 (ob := ((((decide ((g.2.2.2.getD (v56).toNat ((0 : Int), ([] : LI))).1 < (0 : Int))) || (decide (g.2.1 ≤ (g.2.2.2.getD (v56).toNat ((0 : Int), ([] : LI))).1))) = false → True) ∧ Ts 1 True)) (st' := (⟨78, [sp 1 1, e18_1 g, e18_4 g, sI 56 v56, sB 76 (((decide ((g.2.2.2.getD (v56).toNat ((0 : Int), ([] : LI))).1 < (0 : Int))) || (decide (g.2.1 ≤ (g.2.2.2.getD (v56).toNat ((0 : Int), ([] : LI))).1))) || (!ret74v))], [e18_0 g]⟩ : St)) (by kernel_rfl) (⟨(fun _ => trivial), tsI 1 trivial⟩) ?_
      refine nn ?_
      refine aw_cond (b := (((decide ((g.2.2.2.getD (v56).toNat ((0 : Int), ([] : LI))).1 < (0 : Int))) || (decide (g.2.1 ≤ (g.2.2.2.getD (v56).toNat ((0 : Int), ([] : LI))).1))) || (!ret74v))) (by kernel_rfl) (fun hb => ?_) (fun hb => ?_)
      ·have h := h.1 hb
       refine sr ?_
       refine rq 1 (ob := (Ts 1 True)) (st' := (⟨78, [sI 2 (2 : Int)], []⟩ : St)) (by kernel_rfl) (tsI 1 trivial) ?_
       refine nn ?_
       refine aw_ret ?_
       refine blockQ_r ?_
       refine thenQ_r ?_
       refine thenQ_r ?_
       refine blockQ_r ?_
       refine thenQ_r ?_
       exact retQ_r (ob := Ts 1 True) _ (by kernel_rfl) (tsI 1 trivial) h
      ·have h := h.2 hb
       refine aw_skip ?_
       refine blockQ_n ?_
       refine thenQ_n ?_
       refine aw_region ?_
       obtain ⟨o1, h⟩ := h
       refine rq 2 (ob := (InR (v56 + (1 : Int)) ∧ Ts 1 True)) (st' := (⟨78, [sp 1 1, e18_1 g, e18_4 g, sI 56 (v56 + (1 : Int))], [e18_0 g]⟩ : St)) (by kernel_rfl) (⟨o1, tsI 1 trivial⟩) ?_
       refine awl_nil ?_
       exact thenQ_n ⟨(v56 + (1 : Int)), rfl, h⟩
     ·have h := h.2 hb
      refine cpr (st' := (⟨78, [], []⟩ : St)) (by kernel_rfl) ?_
      refine aw_exit ?_
      refine thenQ_x ?_
      refine thenQ_x ?_
      refine blockQ_hit ?_
      exact rest1 () h
  ·refine aw_block ?_
   refine aw_loop (σ := Int) (fun s => (⟨78, [sp 1 1, e18_2 g, e18_5 g, sI 34 s], [e18_0 g]⟩ : St)) (fun s X => VC18_l2 g K s X) (s0 := (0 : Int)) (fun v34 X2 h => ?_) h
   have h : VC18_l2 g K v34 X2 := h
   unfold VC18_l2 at h
   refine sr ?_
   refine rq 1 (ob := (Ts 1 True)) (st' := (⟨78, [sp 1 1, e18_2 g, e18_5 g, sI 34 v34, sB 35 (decide (v34 < (g.2.2.2.length : Int)))], [e18_0 g]⟩ : St)) (by kernel_rfl) (tsI 1 trivial) ?_
   refine nn ?_
   refine aw_seq ?_
   refine aw_cond (b := (decide (v34 < (g.2.2.2.length : Int)))) (by kernel_rfl) (fun hb => ?_) (fun hb => ?_)
   ·have h := h.1 hb
    refine aw_skip ?_
    refine thenQ_n ?_
    refine aw_seq ?_
    refine aw_block ?_
    refine sr ?_
    obtain ⟨o1, h⟩ := h
    refine rq 4 (ob := (inIdx v34 g.2.2.2.length ∧ Ts 3 True)) (st' := (⟨78, [sp 1 1, sp 4 4, e18_2 g, e18_5 g, sI 34 v34], [e18_0 g, hB 4 [.pI ((g.2.2.2.getD (v34).toNat ((0 : Int), ([] : LI))).1), .pS ((g.2.2.2.getD (v34).toNat ((0 : Int), ([] : LI))).2)]]⟩ : St)) (by kernel_rfl) (⟨o1, tsI 3 trivial⟩) ?_
    refine nsr ?_
    refine rq 4 (ob := (Ts 4 True)) (st' := (⟨78, [sp 1 1, e18_2 g, e18_5 g, sI 34 v34, sB 41 (decide ((4 : Int) < (((g.2.2.2.getD (v34).toNat ((0 : Int), ([] : LI))).2).length : Int)))], [e18_0 g]⟩ : St)) (by kernel_rfl) (tsI 4 trivial) ?_
    refine nn ?_
    refine aw_cond (b := (decide ((4 : Int) < (((g.2.2.2.getD (v34).toNat ((0 : Int), ([] : LI))).2).length : Int)))) (by kernel_rfl) (fun hb => ?_) (fun hb => ?_)
    ·have h := h.1 hb
     refine sr ?_
     refine rq 1 (ob := (Ts 1 True)) (st' := (⟨78, [sI 2 (1 : Int)], []⟩ : St)) (by kernel_rfl) (tsI 1 trivial) ?_
     refine nn ?_
     refine aw_ret ?_
     refine blockQ_r ?_
     refine thenQ_r ?_
     refine thenQ_r ?_
     refine blockQ_r ?_
     refine thenQ_r ?_
     exact retQ_r (ob := Ts 1 True) _ (by kernel_rfl) (tsI 1 trivial) h
    ·have h := h.2 hb
     refine aw_skip ?_
     refine blockQ_n ?_
     refine thenQ_n ?_
     refine aw_region ?_
     obtain ⟨o1, h⟩ := h
     refine rq 2 (ob := (InR (v34 + (1 : Int)) ∧ Ts 1 True)) (st' := (⟨78, [sp 1 1, e18_2 g, e18_5 g, sI 34 (v34 + (1 : Int))], [e18_0 g]⟩ : St)) (by kernel_rfl) (⟨o1, tsI 1 trivial⟩) ?_
     refine awl_nil ?_
     exact thenQ_n ⟨(v34 + (1 : Int)), rfl, h⟩
   ·have h := h.2 hb
    refine cpr (st' := (⟨78, [sp 1 1], [e18_0 g]⟩ : St)) (by kernel_rfl) ?_
    refine aw_exit ?_
    refine thenQ_x ?_
    refine thenQ_x ?_
    refine blockQ_hit ?_
    exact rest2 () h

abbrev e46_0 (w : LI) : Nat × Path × AV := sI 11 (w.length : Int)
-- coppicer/coppicerref.WordCheck
def VC46_k1 (K : Int → Prop) : Prop :=
  K (0 : Int)

def VC46_l1 (k : Int) (w : LI) (K : Int → Prop) (v12 : Int) (X1 : Int → Prop) : Prop :=
  (((decide (v12 < (w.length : Int))) = true → (inIdx v12 w.length ∧ ((((decide ((w.getD (v12).toNat (0 : Int)) < (0 : Int))) || (decide (k ≤ (w.getD (v12).toNat (0 : Int))))) = true → K (2 : Int)) ∧ (((decide ((w.getD (v12).toNat (0 : Int)) < (0 : Int))) || (decide (k ≤ (w.getD (v12).toNat (0 : Int))))) = false → (InR (v12 + (1 : Int)) ∧ X1 (v12 + (1 : Int))))))) ∧ ((decide (v12 < (w.length : Int))) = false → VC46_k1 K))

def VC46 (k : Int) (w : LI) (K : Int → Prop) : Prop :=
  (((decide ((12 : Int) < (w.length : Int))) = true → K (1 : Int)) ∧ ((decide ((12 : Int) < (w.length : Int))) = false → Loop (σ := Int) (fun s X => VC46_l1 k w K s X) (0 : Int)))

set_option maxHeartbeats 4000000 in
theorem link46 (k : Int) (w : LI) (K : Int → Prop) (h : VC46 k w K) : ACalls Try.prog 46 [toV1 (.int .i64) k, toV1 (.sl (.int .i64)) w] (fun res => ∃ y, res = (fun y => [toV1 (.int .i64) y]) y ∧ K y) := by
 refine acalls_of_aw [(.int .i64)] [.t 4] Try.func46 rfl rfl rfl ?_
 unfold VC46 at h
 refine sr ?_
 refine rq 1 (ob := (Ts 1 True)) (st' := (⟨24, [sI 0 k, s1 1 (.pS w)], []⟩ : St)) (by kernel_rfl) (tsI 1 trivial) ?_
 refine nn ?_
 refine aw_seq ?_
 refine sr ?_
 refine rq 3 (ob := (Ts 3 True)) (st' := (⟨24, [sI 0 k, s1 1 (.pS w), sB 9 (decide ((12 : Int) < (w.length : Int)))], []⟩ : St)) (by kernel_rfl) (tsI 3 trivial) ?_
 refine nn ?_
 refine aw_cond (b := (decide ((12 : Int) < (w.length : Int)))) (by kernel_rfl) (fun hb => ?_) (fun hb => ?_)
 ·have h := h.1 hb
  refine sr ?_
  refine rq 1 (ob := (Ts 1 True)) (st' := (⟨24, [sI 4 (1 : Int)], []⟩ : St)) (by kernel_rfl) (tsI 1 trivial) ?_
  refine nn ?_
  refine aw_ret ?_
  refine thenQ_r ?_
  exact retQ_r (ob := Ts 1 True) _ (by kernel_rfl) (tsI 1 trivial) h
 ·have h := h.2 hb
  refine aw_skip ?_
  refine thenQ_n ?_
  refine aw_seq ?_
  refine sr ?_
  refine rq 3 (ob := (Ts 3 True)) (st' := (⟨24, [sI 0 k, s1 10 (.pS w), e46_0 w, sI 12 (0 : Int)], []⟩ : St)) (by kernel_rfl) (tsI 3 trivial) ?_
  refine nn ?_
  refine withJoin (σ := Unit) (fun s => (⟨24, [], []⟩ : St)) (fun s => VC46_k1 K) (fun s h => ?_) (fun rest1 => ?_)
  ·have h : VC46_k1 K := h
   unfold VC46_k1 at h
   refine thenQ_n ?_
   refine sr ?_
   refine rq 1 (ob := (Ts 1 True)) (st' := (⟨24, [sI 4 (0 : Int)], []⟩ : St)) (by kernel_rfl) (tsI 1 trivial) ?_
   refine nn ?_
   refine aw_ret ?_
   exact retQ_r (ob := Ts 1 True) _ (by kernel_rfl) (tsI 1 trivial) h
  ·refine aw_block ?_
   refine aw_loop (σ := Int) (fun s => (⟨24, [sI 0 k, s1 10 (.pS w), e46_0 w, sI 12 s], []⟩ : St)) (fun s X => VC46_l1 k w K s X) (s0 := (0 : Int)) (fun v12 X1 h => ?_) h
   have h : VC46_l1 k w K v12 X1 := h
   unfold VC46_l1 at h
   refine sr ?_
   refine rq 1 (ob := (Ts 1 True)) (st' := (⟨24, [sI 0 k, s1 10 (.pS w), e46_0 w, sI 12 v12, sB 13 (decide (v12 < (w.length : Int)))], []⟩ : St)) (by kernel_rfl) (tsI 1 trivial) ?_
   refine nn ?_
   refine aw_seq ?_
   refine aw_cond (b := (decide (v12 < (w.length : Int)))) (by kernel_rfl) (fun hb => ?_) (fun hb => ?_)
   ·have h := h.1 hb
    refine aw_skip ?_
    refine thenQ_n ?_
    refine aw_seq ?_
    refine aw_block ?_
    refine sr ?_
    obtain ⟨o1, h⟩ := h
    refine rq 3 (ob := (inIdx v12 w.length ∧ Ts 2 True)) (st' := (⟨24, [sI 0 k, sI 6 (w.getD (v12).toNat (0 : Int)), s1 10 (.pS w), e46_0 w, sI 12 v12], []⟩ : St)) (by kernel_rfl) (⟨o1, tsI 2 trivial⟩) ?_
    refine nsr ?_
    refine rq 7 (ob := (Ts 3 (Ti 3 ((decide ((w.getD (v12).toNat (0 : Int)) < (0 : Int))) = false → True) (Ts 1 True)))) (st' := (⟨24, [sI 0 k, s1 10 (.pS w), e46_0 w, sI 12 v12, sB 22 ((decide ((w.getD (v12).toNat (0 : Int)) < (0 : Int))) || (decide (k ≤ (w.getD (v12).toNat (0 : Int)))))], []⟩ : St)) (by kernel_rfl) (tsI 3 (tiI 3 (fun _ => trivial) (tsI 1 trivial))) ?_
    refine nn ?_
    refine aw_cond (b := ((decide ((w.getD (v12).toNat (0 : Int)) < (0 : Int))) || (decide (k ≤ (w.getD (v12).toNat (0 : Int)))))) (by kernel_rfl) (fun hb => ?_) (fun hb => ?_)
    ·have h := h.1 hb
     refine sr ?_
     refine rq 1 (ob := (Ts 1 True)) (st' := (⟨24, [sI 4 (2 : Int)], []⟩ : St)) (by kernel_rfl) (tsI 1 trivial) ?_
     refine nn ?_
     refine aw_ret ?_
     refine blockQ_r ?_
     refine thenQ_r ?_
     refine thenQ_r ?_
     refine blockQ_r ?_
     refine thenQ_r ?_
     exact retQ_r (ob := Ts 1 True) _ (by kernel_rfl) (tsI 1 trivial) h
    ·have h := h.2 hb
     refine aw_skip ?_
     refine blockQ_n ?_
     refine thenQ_n ?_
     refine aw_region ?_
     obtain ⟨o1, h⟩ := h
     refine rq 2 (ob := (InR (v12 + (1 : Int)) ∧ Ts 1 True)) (st' := (⟨24, [sI 0 k, s1 10 (.pS w), e46_0 w, sI 12 (v12 + (1 : Int))], []⟩ : St)) (by kernel_rfl) (⟨o1, tsI 1 trivial⟩) ?_
     refine awl_nil ?_
     exact thenQ_n ⟨(v12 + (1 : Int)), rfl, h⟩
   ·have h := h.2 hb
    refine cpr (st' := (⟨24, [], []⟩ : St)) (by kernel_rfl) ?_
    refine aw_exit ?_
    refine thenQ_x ?_
    refine thenQ_x ?_
    refine blockQ_hit ?_
    exact rest1 () h

abbrev e21_0 (g : (Int × (Int × (Int × (List (Int × LI)))))) : Nat × Path × Con := hB 2 [.pI g.1, .pI g.2.1, .pI g.2.2.1, .p (.sl (.pr (.int .i64) (.sl (.int .i64)))) g.2.2.2]
-- coppicer/coppicerkeep.grown
def VC21 (g : (Int × (Int × (Int × (List (Int × LI)))))) (w : LI) (K : Bool → Prop) : Prop :=
  VC18 g (fun (ret6v : Int) => gcall (α := Int) (decide (ret6v = (0 : Int))) (VC46 g.1 w) (0 : Int) (fun (ret12v : Int) => K ((decide (ret6v = (0 : Int))) && (decide (ret12v = (0 : Int))))))

set_option maxHeartbeats 4000000 in
theorem link21 (g : (Int × (Int × (Int × (List (Int × LI)))))) (w : LI) (K : Bool → Prop) (h : VC21 g w K) : ACalls Try.prog 21 [toV1 (.pr (.int .i64) (.pr (.int .i64) (.pr (.int .i64) (.sl (.pr (.int .i64) (.sl (.int .i64))))))) g, toV1 (.sl (.int .i64)) w] (fun res => ∃ y, res = (fun y => [toV1 .bool y]) y ∧ K y) := by
 refine acalls_of_aw [.bool] [.t 4] Try.func21 rfl rfl rfl ?_
 unfold VC21 at h
 refine sr ?_
 refine rq 2 (ob := (Ts 2 True)) (st' := (⟨15, [s1 1 (.pS w), sp 2 2], [e21_0 g]⟩ : St)) (by kernel_rfl) (tsI 2 trivial) ?_
 refine nsr ?_
 refine rq 1 (ob := (Ts 1 True)) (st' := (⟨15, [s1 1 (.pS w), sp 2 2, sA 5 [.pI g.1, .pI g.2.1, .pI g.2.2.1, .p (.sl (.pr (.int .i64) (.sl (.int .i64)))) g.2.2.2]], [e21_0 g]⟩ : St)) (by kernel_rfl) (tsI 1 trivial) ?_
 refine lcq (d := 6) [.d (.pr (.int .i64) (.pr (.int .i64) (.pr (.int .i64) (.sl (.pr (.int .i64) (.sl (.int .i64)))))))] (fun ret6v => (⟨15, [s1 1 (.pS w), sp 2 2, sI 6 ret6v], [e21_0 g]⟩ : St)) (by kernel_rfl) Try.call18 (fun _ => by kernel_rfl) (link18 g _ h) (fun ret6v h => ?_)
 refine rq 5 (ob := (Ts 2 (Ti 3 ((decide (ret6v = (0 : Int))) = true → True) True))) (st' := (⟨15, [sB 8 (decide (ret6v = (0 : Int))), (10, [(8, true)], .v (.c (.pI g.1))), (11, [(8, true)], .v (.c (.pS w)))], []⟩ : St)) (by kernel_rfl) (tsI 2 (tiI 3 (fun _ => trivial) trivial)) ?_
 refine awl_callk (p := [(8, true)]) (l := [toV1 (.int .i64) g.1, toV1 (.sl (.int .i64)) w]) (cl := []) false [.d (.int .i64), .d (.sl (.int .i64))] [8, 12] [] (fun (ret12v : Int) => K ((decide (ret6v = (0 : Int))) && (decide (ret12v = (0 : Int))))) (fun ret12v => [toV1 (.int .i64) ret12v]) (fun ret12v => (⟨15, [sB 8 (decide (ret6v = (0 : Int))), (12, [(8, true)], .v (.c (.pI ret12v)))], []⟩ : St)) (by kernel_rfl) rfl (by kernel_rfl) rfl (by kernel_rfl) Try.call46 (by kernel_rfl) (fun ret12v => by kernel_rfl) (fun e => by cases e) (fun hg => link46 g.1 w _ (by have := gcall_T h (show (decide (ret6v = (0 : Int))) = true from hg); exact this)) (fun hg => ⟨(0 : Int), by have := gcall_F h (show (decide (ret6v = (0 : Int))) = false from hg); exact this⟩) (fun ret12v h => ?_)
 refine rq 3 (ob := (((decide (ret6v = (0 : Int))) = true → True) ∧ Ts 2 True)) (st' := (⟨15, [sB 4 ((decide (ret6v = (0 : Int))) && (decide (ret12v = (0 : Int))))], []⟩ : St)) (by kernel_rfl) (⟨(fun _ => trivial), tsI 2 trivial⟩) ?_
 refine nn ?_
 refine aw_ret ?_
 exact retQ_r (ob := Ts 1 True) _ (by kernel_rfl) (tsI 1 trivial) h

abbrev e28_0 (g : (Int × (Int × (Int × (List (Int × LI)))))) : Nat × Path × Con := hB 1 [.pI g.1, .pI g.2.1, .pI g.2.2.1, .p (.sl (.pr (.int .i64) (.sl (.int .i64)))) g.2.2.2]
abbrev e28_1 (g : (Int × (Int × (Int × (List (Int × LI)))))) : Nat × Path × AV := s1 6 (.p (.sl (.pr (.int .i64) (.sl (.int .i64)))) g.2.2.2)
abbrev e28_2 (g : (Int × (Int × (Int × (List (Int × LI)))))) : Nat × Path × AV := sI 7 (g.2.2.2.length : Int)
-- coppicer/coppicerref.Proper
def VC28_k1 (K : Bool → Prop) : Prop :=
  K true

def VC28_l1 (g : (Int × (Int × (Int × (List (Int × LI)))))) (K : Bool → Prop) (v8 : Int) (X1 : Int → Prop) : Prop :=
  (((decide (v8 < (g.2.2.2.length : Int))) = true → (inIdx v8 g.2.2.2.length ∧ (((decide ((((g.2.2.2.getD (v8).toNat ((0 : Int), ([] : LI))).2).length : Int) = (0 : Int))) = false → ((decide ((((g.2.2.2.getD (v8).toNat ((0 : Int), ([] : LI))).2).length : Int) = (1 : Int))) = true → inIdx (0 : Int) ((g.2.2.2.getD (v8).toNat ((0 : Int), ([] : LI))).2).length)) ∧ ((((decide ((((g.2.2.2.getD (v8).toNat ((0 : Int), ([] : LI))).2).length : Int) = (0 : Int))) || ((decide ((((g.2.2.2.getD (v8).toNat ((0 : Int), ([] : LI))).2).length : Int) = (1 : Int))) && (decide (g.1 ≤ (((g.2.2.2.getD (v8).toNat ((0 : Int), ([] : LI))).2).getD ((0 : Int)).toNat (0 : Int)))))) = true → K false) ∧ (((decide ((((g.2.2.2.getD (v8).toNat ((0 : Int), ([] : LI))).2).length : Int) = (0 : Int))) || ((decide ((((g.2.2.2.getD (v8).toNat ((0 : Int), ([] : LI))).2).length : Int) = (1 : Int))) && (decide (g.1 ≤ (((g.2.2.2.getD (v8).toNat ((0 : Int), ([] : LI))).2).getD ((0 : Int)).toNat (0 : Int)))))) = false → (InR (v8 + (1 : Int)) ∧ X1 (v8 + (1 : Int)))))))) ∧ ((decide (v8 < (g.2.2.2.length : Int))) = false → VC28_k1 K))

def VC28 (g : (Int × (Int × (Int × (List (Int × LI)))))) (K : Bool → Prop) : Prop :=
  Loop (σ := Int) (fun s X => VC28_l1 g K s X) (0 : Int)

set_option maxHeartbeats 4000000 in
theorem link28 (g : (Int × (Int × (Int × (List (Int × LI)))))) (K : Bool → Prop) (h : VC28 g K) : ACalls Try.prog 28 [toV1 (.pr (.int .i64) (.pr (.int .i64) (.pr (.int .i64) (.sl (.pr (.int .i64) (.sl (.int .i64))))))) g] (fun res => ∃ y, res = (fun y => [toV1 .bool y]) y ∧ K y) := by
 refine acalls_of_aw [.bool] [.t 2] Try.func28 rfl rfl rfl ?_
 unfold VC28 at h
 refine sr ?_
 refine rq 2 (ob := (Ts 2 True)) (st' := (⟨32, [sp 1 1], [e28_0 g]⟩ : St)) (by kernel_rfl) (tsI 2 trivial) ?_
 refine nn ?_
 refine aw_seq ?_
 refine sr ?_
 refine rq 4 (ob := (Ts 4 True)) (st' := (⟨32, [sp 1 1, e28_1 g, e28_2 g, sI 8 (0 : Int)], [e28_0 g]⟩ : St)) (by kernel_rfl) (tsI 4 trivial) ?_
 refine nn ?_
 refine withJoin (σ := Unit) (fun s => (⟨32, [], []⟩ : St)) (fun s => VC28_k1 K) (fun s h => ?_) (fun rest1 => ?_)
 ·have h : VC28_k1 K := h
  unfold VC28_k1 at h
  refine thenQ_n ?_
  refine sr ?_
  refine rq 1 (ob := (Ts 1 True)) (st' := (⟨32, [sB 2 true], []⟩ : St)) (by kernel_rfl) (tsI 1 trivial) ?_
  refine nn ?_
  refine aw_ret ?_
  exact retQ_r (ob := Ts 1 True) _ (by kernel_rfl) (tsI 1 trivial) h
 ·refine aw_block ?_
  refine aw_loop (σ := Int) (fun s => (⟨32, [sp 1 1, e28_1 g, e28_2 g, sI 8 s], [e28_0 g]⟩ : St)) (fun s X => VC28_l1 g K s X) (s0 := (0 : Int)) (fun v8 X1 h => ?_) h
  have h : VC28_l1 g K v8 X1 := h
  unfold VC28_l1 at h
  refine sr ?_
  refine rq 1 (ob := (Ts 1 True)) (st' := (⟨32, [sp 1 1, e28_1 g, e28_2 g, sI 8 v8, sB 9 (decide (v8 < (g.2.2.2.length : Int)))], [e28_0 g]⟩ : St)) (by kernel_rfl) (tsI 1 trivial) ?_
  refine nn ?_
  refine aw_seq ?_
  refine aw_cond (b := (decide (v8 < (g.2.2.2.length : Int)))) (by kernel_rfl) (fun hb => ?_) (fun hb => ?_)
  ·have h := h.1 hb
   refine aw_skip ?_
   refine thenQ_n ?_
   refine aw_seq ?_
   refine aw_block ?_
   refine sr ?_
   obtain ⟨o1, h⟩ := h
   refine rq 4 (ob := (inIdx v8 g.2.2.2.length ∧ Ts 3 True)) (st' := (⟨32, [sp 1 1, sp 4 4, e28_1 g, e28_2 g, sI 8 v8], [e28_0 g, hB 4 [.pI ((g.2.2.2.getD (v8).toNat ((0 : Int), ([] : LI))).1), .pS ((g.2.2.2.getD (v8).toNat ((0 : Int), ([] : LI))).2)]]⟩ : St)) (by kernel_rfl) (⟨o1, tsI 3 trivial⟩) ?_
   refine nn ?_
   refine aw_seq ?_
   refine awd_begin [] (by kernel_rfl) ?_
   obtain ⟨o1, h⟩ := h
   refine drq (by kernel_rfl) [0, 1, 2, 3, 4, 5, 6, 7, 8, 9, 10, 11, 12, 13, 14, 15, 16, 17, 18] (ob := (Ts 5 (Ti 5 ((decide ((((g.2.2.2.getD (v8).toNat ((0 : Int), ([] : LI))).2).length : Int) = (0 : Int))) = false → True) (((decide ((((g.2.2.2.getD (v8).toNat ((0 : Int), ([] : LI))).2).length : Int) = (0 : Int))) = false → ((decide ((((g.2.2.2.getD (v8).toNat ((0 : Int), ([] : LI))).2).length : Int) = (1 : Int))) = true → True)) ∧ ((decide ((((g.2.2.2.getD (v8).toNat ((0 : Int), ([] : LI))).2).length : Int) = (0 : Int))) = false → ((decide ((((g.2.2.2.getD (v8).toNat ((0 : Int), ([] : LI))).2).length : Int) = (1 : Int))) = true → True)) ∧ ((decide ((((g.2.2.2.getD (v8).toNat ((0 : Int), ([] : LI))).2).length : Int) = (0 : Int))) = false → ((decide ((((g.2.2.2.getD (v8).toNat ((0 : Int), ([] : LI))).2).length : Int) = (1 : Int))) = true → inIdx (0 : Int) ((g.2.2.2.getD (v8).toNat ((0 : Int), ([] : LI))).2).length)) ∧ ((decide ((((g.2.2.2.getD (v8).toNat ((0 : Int), ([] : LI))).2).length : Int) = (0 : Int))) = false → ((decide ((((g.2.2.2.getD (v8).toNat ((0 : Int), ([] : LI))).2).length : Int) = (1 : Int))) = true → True)) ∧ ((decide ((((g.2.2.2.getD (v8).toNat ((0 : Int), ([] : LI))).2).length : Int) = (0 : Int))) = false → ((decide ((((g.2.2.2.getD (v8).toNat ((0 : Int), ([] : LI))).2).length : Int) = (1 : Int))) = true → True)) ∧ ((decide ((((g.2.2.2.getD (v8).toNat ((0 : Int), ([] : LI))).2).length : Int) = (0 : Int))) = false → ((decide ((((g.2.2.2.getD (v8).toNat ((0 : Int), ([] : LI))).2).length : Int) = (1 : Int))) = true → True)) ∧ ((decide ((((g.2.2.2.getD (v8).toNat ((0 : Int), ([] : LI))).2).length : Int) = (0 : Int))) = false → ((decide ((((g.2.2.2.getD (v8).toNat ((0 : Int), ([] : LI))).2).length : Int) = (1 : Int))) = true → True)) ∧ ((decide ((((g.2.2.2.getD (v8).toNat ((0 : Int), ([] : LI))).2).length : Int) = (0 : Int))) = false → True) ∧ Ts 1 True)))) (done' := [18, 17, 16, 15, 14, 13, 12, 11, 10, 9, 8, 7, 6, 5, 4, 3, 2, 1, 0]) (st' := (⟨32, [sp 1 1, e28_1 g, e28_2 g, sI 8 v8, sB 30 ((decide ((((g.2.2.2.getD (v8).toNat ((0 : Int), ([] : LI))).2).length : Int) = (0 : Int))) || ((decide ((((g.2.2.2.getD (v8).toNat ((0 : Int), ([] : LI))).2).length : Int) = (1 : Int))) && (decide (g.1 ≤ (((g.2.2.2.getD (v8).toNat ((0 : Int), ([] : LI))).2).getD ((0 : Int)).toNat (0 : Int))))))], [e28_0 g]⟩ : St)) (by kernel_rfl) (tsI 5 (tiI 5 (fun _ => trivial) (tiI 2 (fun _ _ => trivial) (⟨o1, tiI 4 (fun _ _ => trivial) ⟨(fun _ => trivial), tsI 1 trivial⟩⟩)))) ?_
   refine awd_done (by kernel_rfl) ?_
   refine thenQ_n ?_
   refine aw_cond (b := ((decide ((((g.2.2.2.getD (v8).toNat ((0 : Int), ([] : LI))).2).length : Int) = (0 : Int))) || ((decide ((((g.2.2.2.getD (v8).toNat ((0 : Int), ([] : LI))).2).length : Int) = (1 : Int))) && (decide (g.1 ≤ (((g.2.2.2.getD (v8).toNat ((0 : Int), ([] : LI))).2).getD ((0 : Int)).toNat (0 : Int))))))) (by kernel_rfl) (fun hb => ?_) (fun hb => ?_)
   ·have h := h.1 hb
    refine sr ?_
    refine rq 1 (ob := (Ts 1 True)) (st' := (⟨32, [sB 2 false], []⟩ : St)) (by kernel_rfl) (tsI 1 trivial) ?_
    refine nn ?_
    refine aw_ret ?_
    refine blockQ_r ?_
    refine thenQ_r ?_
    refine thenQ_r ?_
    refine blockQ_r ?_
    refine thenQ_r ?_
    exact retQ_r (ob := Ts 1 True) _ (by kernel_rfl) (tsI 1 trivial) h
   ·have h := h.2 hb
    refine aw_skip ?_
    refine blockQ_n ?_
    refine thenQ_n ?_
    refine aw_region ?_
    obtain ⟨o1, h⟩ := h
    refine rq 2 (ob := (InR (v8 + (1 : Int)) ∧ Ts 1 True)) (st' := (⟨32, [sp 1 1, e28_1 g, e28_2 g, sI 8 (v8 + (1 : Int))], [e28_0 g]⟩ : St)) (by kernel_rfl) (⟨o1, tsI 1 trivial⟩) ?_
    refine awl_nil ?_
    exact thenQ_n ⟨(v8 + (1 : Int)), rfl, h⟩
  ·have h := h.2 hb
   refine cpr (st' := (⟨32, [], []⟩ : St)) (by kernel_rfl) ?_
   refine aw_exit ?_
   refine thenQ_x ?_
   refine thenQ_x ?_
   refine blockQ_hit ?_
   exact rest1 () h

-- coppicer/coppicerref.capped
def VC125 (a : Int) (b : Int) (K : Int → Prop) : Prop :=
  ((((decide (a = (0 : Int))) || (decide (b = (0 : Int)))) = true → K (0 : Int)) ∧ (((decide (a = (0 : Int))) || (decide (b = (0 : Int)))) = false → ((0 ≤ (1099511627777 : Int) ∧ 0 < b) ∧ (((decide (((1099511627777 : Int) / b) < a)) = true → K (1099511627777 : Int)) ∧ ((decide (((1099511627777 : Int) / b) < a)) = false → (InR (a * b) ∧ K (a * b)))))))

set_option maxHeartbeats 4000000 in
theorem link125 (a : Int) (b : Int) (K : Int → Prop) (h : VC125 a b K) : ACalls Try.prog 125 [toV1 (.int .i64) a, toV1 (.int .i64) b] (fun res => ∃ y, res = (fun y => [toV1 (.int .i64) y]) y ∧ K y) := by
 refine acalls_of_aw [(.int .i64)] [.t 4] Try.func125 rfl rfl rfl ?_
 unfold VC125 at h
 refine sr ?_
 refine rq 1 (ob := (Ts 1 True)) (st' := (⟨18, [sI 0 a, sI 1 b], []⟩ : St)) (by kernel_rfl) (tsI 1 trivial) ?_
 refine nn ?_
 refine aw_seq ?_
 refine sr ?_
 refine rq 6 (ob := (Ts 3 (Ti 2 ((decide (a = (0 : Int))) = false → True) (Ts 1 True)))) (st' := (⟨18, [sI 0 a, sI 1 b, sB 10 ((decide (a = (0 : Int))) || (decide (b = (0 : Int))))], []⟩ : St)) (by kernel_rfl) (tsI 3 (tiI 2 (fun _ => trivial) (tsI 1 trivial))) ?_
 refine nn ?_
 refine aw_cond (b := ((decide (a = (0 : Int))) || (decide (b = (0 : Int))))) (by kernel_rfl) (fun hb => ?_) (fun hb => ?_)
 ·have h := h.1 hb
  refine sr ?_
  refine rq 1 (ob := (Ts 1 True)) (st' := (⟨18, [sI 4 (0 : Int)], []⟩ : St)) (by kernel_rfl) (tsI 1 trivial) ?_
  refine nn ?_
  refine aw_ret ?_
  refine thenQ_r ?_
  exact retQ_r (ob := Ts 1 True) _ (by kernel_rfl) (tsI 1 trivial) h
 ·have h := h.2 hb
  refine aw_skip ?_
  refine thenQ_n ?_
  refine aw_seq ?_
  refine sr ?_
  obtain ⟨o1, h⟩ := h
  refine rq 4 (ob := (Ts 2 ((0 ≤ (1099511627777 : Int) ∧ 0 < b) ∧ Ts 1 True))) (st' := (⟨18, [sI 0 a, sI 1 b, sB 14 (decide (((1099511627777 : Int) / b) < a))], []⟩ : St)) (by kernel_rfl) (tsI 2 ⟨o1, tsI 1 trivial⟩) ?_
  refine nn ?_
  refine aw_cond (b := (decide (((1099511627777 : Int) / b) < a))) (by kernel_rfl) (fun hb => ?_) (fun hb => ?_)
  ·have h := h.1 hb
   refine sr ?_
   refine rq 1 (ob := (Ts 1 True)) (st' := (⟨18, [sI 4 (1099511627777 : Int)], []⟩ : St)) (by kernel_rfl) (tsI 1 trivial) ?_
   refine nn ?_
   refine aw_ret ?_
   refine thenQ_r ?_
   exact retQ_r (ob := Ts 1 True) _ (by kernel_rfl) (tsI 1 trivial) h
  ·have h := h.2 hb
   refine aw_skip ?_
   refine thenQ_n ?_
   refine sr ?_
   obtain ⟨o1, h⟩ := h
   refine rq 4 (ob := (Ts 2 (InR (a * b) ∧ Ts 1 True))) (st' := (⟨18, [sI 4 (a * b)], []⟩ : St)) (by kernel_rfl) (tsI 2 ⟨o1, tsI 1 trivial⟩) ?_
   refine nn ?_
   refine aw_ret ?_
   exact retQ_r (ob := Ts 1 True) _ (by kernel_rfl) (tsI 1 trivial) h

abbrev e34_0 (c0 : Int) (c1 : Int) (c2 : Int) (c3 : (List (Int × LI))) (c4 : LI) : Nat × Path × Con := hB 41000 [.pI c0, .pI c1, .pI c2, .p (.sl (.pr (.int .i64) (.sl (.int .i64)))) c3, .pS c4, .own 41001]
abbrev e34_1 (b : LI) : Nat × Path × AV := sI 1 (b.getD ((0 : Int)).toNat (0 : Int))
abbrev e34_2 (c3 : (List (Int × LI))) : Nat × Path × AV := s1 56 (.p (.sl (.pr (.int .i64) (.sl (.int .i64)))) c3)
abbrev e34_3 (c5 : (List (LI × Int))) : Nat × Path × Con := (41001, [], .dict (.ar 2 (.int .i64)) (.int .i64) c5)
abbrev e34_4 (l410012 : (List (LI × Int))) : Nat × Path × Con := (41001, [], .dict (.ar 2 (.int .i64)) (.int .i64) l410012)
abbrev e34_5 (ret46v : Int × (List (LI × Int))) : Nat × Path × Con := (41001, [], .dict (.ar 2 (.int .i64)) (.int .i64) ret46v.2)
abbrev e34_6 (l41001 : (List (LI × Int))) : Nat × Path × Con := (41001, [], .dict (.ar 2 (.int .i64)) (.int .i64) l41001)
abbrev e34_7 : Nat × Path × AV := sp 156 41000
abbrev e34_8 : Nat × Path × AV := sp 0 41000
abbrev e34_9 (c3 : (List (Int × LI))) : Nat × Path × AV := sI 57 (c3.length : Int)
abbrev e34_10 (c3 : (List (Int × LI))) (v58 : Int) : Nat × Path × Con := hB 12 [.pI ((c3.getD (v58).toNat ((0 : Int), ([] : LI))).1), .pS ((c3.getD (v58).toNat ((0 : Int), ([] : LI))).2)]
abbrev e34_11 (b : LI) : Nat × Path × AV := s1 94 (.pS b)
abbrev e34_12 : Nat × Path × AV := sp 63 41000
abbrev e34_13 (ret78v : Int × (List (LI × Int))) : Nat × Path × Con := (41001, [], .dict (.ar 2 (.int .i64)) (.int .i64) ret78v.2)
abbrev e34_14 : Nat × Path × AV := sp 93 41000
abbrev e34_15 (b : LI) : Nat × Path × AV := s1 1 (.pS b)
abbrev e34_16 (c5 : (List (LI × Int))) (b : LI) (signs : Int) (i : Int) : Nat × Path × AV := sI 9 ((mget c5 [(b.getD ((0 : Int)).toNat (0 : Int)), signs, i]).getD (0 : Int))
abbrev e34_17 (c3 : (List (Int × LI))) (v58 : Int) : Nat × Path × AV := s1 75 (.pS ((c3.getD (v58).toNat ((0 : Int), ([] : LI))).2))
-- (*coppicer/coppicerref.Bush).Row
def VCc99_k1 (K : Int × (List (LI × Int)) → Prop) (v8 : Int) (l41001 : (List (LI × Int))) : Prop :=
  K (v8, l41001)

def VCc99_k3 (b : LI) (signs : Int) (i : Int) (K : Int × (List (LI × Int)) → Prop) (l41001 : (List (LI × Int))) (n2 : Int) : Prop :=
  VCc99_k1 K n2 (mset l41001 [(b.getD ((0 : Int)).toNat (0 : Int)), signs, i] n2)

def VCc99_k2 (b : LI) (signs : Int) (i : Int) (K : Int × (List (LI × Int)) → Prop) (n : Int) (l41001 : (List (LI × Int))) : Prop :=
  (((decide ((1099511627776 : Int) < n)) = true → VCc99_k3 b signs i K l41001 (1099511627777 : Int)) ∧ ((decide ((1099511627776 : Int) < n)) = false → VCc99_k3 b signs i K l41001 n))

def VCc99_k4 (v58 : Int) (X1 : Int × Int × (List (LI × Int)) → Prop) (n2 : Int) (l410012 : (List (LI × Int))) : Prop :=
  (InR (v58 + (1 : Int)) ∧ X1 (n2, (v58 + (1 : Int)), l410012))

def VCc99_l1 (c0 : Int) (c3 : (List (Int × LI))) (R : LI → Int → Int → (List (LI × Int)) → (Int × (List (LI × Int)) → Prop) → Prop) (b : LI) (signs : Int) (i : Int) (K : Int × (List (LI × Int)) → Prop) (n : Int) (v58 : Int) (l41001 : (List (LI × Int))) (X1 : Int × Int × (List (LI × Int)) → Prop) : Prop :=
  (((decide (v58 < (c3.length : Int))) = true → (inIdx v58 c3.length ∧ (InR ((b.getD ((0 : Int)).toNat (0 : Int)) - c0) ∧ (((decide ((c3.getD (v58).toNat ((0 : Int), ([] : LI))).1 = ((b.getD ((0 : Int)).toNat (0 : Int)) - c0))) = true → R ((c3.getD (v58).toNat ((0 : Int), ([] : LI))).2) signs i l41001 (fun (ret78v : Int × (List (LI × Int))) => (InR (n + ret78v.1) ∧ VCc99_k4 v58 X1 (n + ret78v.1) ret78v.2))) ∧ ((decide ((c3.getD (v58).toNat ((0 : Int), ([] : LI))).1 = ((b.getD ((0 : Int)).toNat (0 : Int)) - c0))) = false → VCc99_k4 v58 X1 n l41001))))) ∧ ((decide (v58 < (c3.length : Int))) = false → VCc99_k2 b signs i K n l41001))

def VCc99_k5 (K : Int × (List (LI × Int)) → Prop) (sumv : Int) (l41001 : (List (LI × Int))) : Prop :=
  K (sumv, l41001)

def VCc99_k7 (m : Int) (X2 : Int × Int × (List (LI × Int)) → Prop) (l410012 : (List (LI × Int))) (sumv3 : Int) : Prop :=
  (InR (m + (1 : Int)) ∧ X2 (sumv3, (m + (1 : Int)), l410012))

def VCc99_k6 (m : Int) (X2 : Int × Int × (List (LI × Int)) → Prop) (sumv2 : Int) (l410012 : (List (LI × Int))) : Prop :=
  (((decide ((1099511627776 : Int) < sumv2)) = true → VCc99_k7 m X2 l410012 (1099511627777 : Int)) ∧ ((decide ((1099511627776 : Int) < sumv2)) = false → VCc99_k7 m X2 l410012 sumv2))

def VCc99_k8 (sumv : Int) (m : Int) (X2 : Int × Int × (List (LI × Int)) → Prop) (ret46v : Int × (List (LI × Int))) (v8 : Int) (l410012 : (List (LI × Int))) : Prop :=
  VC125 v8 ret46v.1 (fun (ret58v : Int) => (InR (sumv + ret58v) ∧ VCc99_k6 m X2 (sumv + ret58v) l410012))

def VCc99_k10 (b : LI) (signs : Int) (sumv : Int) (m : Int) (X2 : Int × Int × (List (LI × Int)) → Prop) (ret46v : Int × (List (LI × Int))) (l410012 : (List (LI × Int))) (n2 : Int) : Prop :=
  VCc99_k8 sumv m X2 ret46v n2 (mset l410012 [(b.getD ((0 : Int)).toNat (0 : Int)), signs, m] n2)

def VCc99_k9 (b : LI) (signs : Int) (sumv : Int) (m : Int) (X2 : Int × Int × (List (LI × Int)) → Prop) (ret46v : Int × (List (LI × Int))) (n : Int) (l410012 : (List (LI × Int))) : Prop :=
  (((decide ((1099511627776 : Int) < n)) = true → VCc99_k10 b signs sumv m X2 ret46v l410012 (1099511627777 : Int)) ∧ ((decide ((1099511627776 : Int) < n)) = false → VCc99_k10 b signs sumv m X2 ret46v l410012 n))

def VCc99_k11 (v58 : Int) (X3 : Int × Int × (List (LI × Int)) → Prop) (n2 : Int) (l410013 : (List (LI × Int))) : Prop :=
  (InR (v58 + (1 : Int)) ∧ X3 (n2, (v58 + (1 : Int)), l410013))

def VCc99_l3 (c0 : Int) (c3 : (List (Int × LI))) (R : LI → Int → Int → (List (LI × Int)) → (Int × (List (LI × Int)) → Prop) → Prop) (b : LI) (signs : Int) (sumv : Int) (m : Int) (X2 : Int × Int × (List (LI × Int)) → Prop) (ret46v : Int × (List (LI × Int))) (n : Int) (v58 : Int) (l410012 : (List (LI × Int))) (X3 : Int × Int × (List (LI × Int)) → Prop) : Prop :=
  (((decide (v58 < (c3.length : Int))) = true → (inIdx v58 c3.length ∧ (InR ((b.getD ((0 : Int)).toNat (0 : Int)) - c0) ∧ (((decide ((c3.getD (v58).toNat ((0 : Int), ([] : LI))).1 = ((b.getD ((0 : Int)).toNat (0 : Int)) - c0))) = true → R ((c3.getD (v58).toNat ((0 : Int), ([] : LI))).2) signs m l410012 (fun (ret78v : Int × (List (LI × Int))) => (InR (n + ret78v.1) ∧ VCc99_k11 v58 X3 (n + ret78v.1) ret78v.2))) ∧ ((decide ((c3.getD (v58).toNat ((0 : Int), ([] : LI))).1 = ((b.getD ((0 : Int)).toNat (0 : Int)) - c0))) = false → VCc99_k11 v58 X3 n l410012))))) ∧ ((decide (v58 < (c3.length : Int))) = false → VCc99_k9 b signs sumv m X2 ret46v n l410012))

def VCc99_l2 (c0 : Int) (c3 : (List (Int × LI))) (c4 : LI) (R : LI → Int → Int → (List (LI × Int)) → (Int × (List (LI × Int)) → Prop) → Prop) (b : LI) (signs : Int) (i : Int) (K : Int × (List (LI × Int)) → Prop) (sumv : Int) (m : Int) (l41001 : (List (LI × Int))) (X2 : Int × Int × (List (LI × Int)) → Prop) : Prop :=
  (((decide (m < i)) = true → ((0 ≤ (1 : Int) ∧ (1 : Int) ≤ (b.length : Int)) ∧ R (b.drop ((1 : Int)).toNat) m i l41001 (fun (ret46v : Int × (List (LI × Int))) => (((decide ((0 : Int) < ret46v.1)) = true → (inIdx (0 : Int) b.length ∧ (((decide ((b.getD ((0 : Int)).toNat (0 : Int)) < c0)) = true → (InR (signs + (1 : Int)) ∧ ((decide (m = (signs + (1 : Int)))) = true → inIdx signs c4.length) ∧ ((((decide (m = (signs + (1 : Int)))) && (decide ((c4.getD (signs).toNat (0 : Int)) = (b.getD ((0 : Int)).toNat (0 : Int))))) = true → VCc99_k8 sumv m X2 ret46v (1 : Int) ret46v.2) ∧ (((decide (m = (signs + (1 : Int)))) && (decide ((c4.getD (signs).toNat (0 : Int)) = (b.getD ((0 : Int)).toNat (0 : Int))))) = false → VCc99_k8 sumv m X2 ret46v (0 : Int) ret46v.2)))) ∧ ((decide ((b.getD ((0 : Int)).toNat (0 : Int)) < c0)) = false → (((decide (signs = m)) = true → VCc99_k8 sumv m X2 ret46v (0 : Int) ret46v.2) ∧ ((decide (signs = m)) = false → (((mget ret46v.2 [(b.getD ((0 : Int)).toNat (0 : Int)), signs, m]).isSome = true → VCc99_k8 sumv m X2 ret46v ((mget ret46v.2 [(b.getD ((0 : Int)).toNat (0 : Int)), signs, m]).getD (0 : Int)) ret46v.2) ∧ ((mget ret46v.2 [(b.getD ((0 : Int)).toNat (0 : Int)), signs, m]).isSome = false → Loop (σ := Int × Int × (List (LI × Int))) (fun s X => VCc99_l3 c0 c3 R b signs sumv m X2 ret46v s.1 s.2.1 s.2.2 X) (((mget ret46v.2 [(b.getD ((0 : Int)).toNat (0 : Int)), signs, m]).getD (0 : Int)), (0 : Int), ret46v.2))))))))) ∧ ((decide ((0 : Int) < ret46v.1)) = false → VCc99_k6 m X2 sumv ret46v.2))))) ∧ ((decide (m < i)) = false → VCc99_k5 K sumv l41001))

def VCc99 (c0 : Int) (c1 : Int) (c2 : Int) (c3 : (List (Int × LI))) (c4 : LI) (R : LI → Int → Int → (List (LI × Int)) → (Int × (List (LI × Int)) → Prop) → Prop) (b : LI) (signs : Int) (i : Int) (c5 : (List (LI × Int))) (K : Int × (List (LI × Int)) → Prop) : Prop :=
  (InR (i - signs) ∧ (((decide ((i - signs) < (b.length : Int))) = true → K ((0 : Int), c5)) ∧ ((decide ((i - signs) < (b.length : Int))) = false → (((decide ((b.length : Int) = (0 : Int))) = true → (((decide (signs = i)) = true → K ((1 : Int), c5)) ∧ ((decide (signs = i)) = false → K ((0 : Int), c5)))) ∧ ((decide ((b.length : Int) = (0 : Int))) = false → (((decide ((b.length : Int) = (1 : Int))) = true → (inIdx (0 : Int) b.length ∧ (((decide ((b.getD ((0 : Int)).toNat (0 : Int)) < c0)) = true → (InR (signs + (1 : Int)) ∧ ((decide (i = (signs + (1 : Int)))) = true → inIdx signs c4.length) ∧ ((((decide (i = (signs + (1 : Int)))) && (decide ((c4.getD (signs).toNat (0 : Int)) = (b.getD ((0 : Int)).toNat (0 : Int))))) = true → VCc99_k1 K (1 : Int) c5) ∧ (((decide (i = (signs + (1 : Int)))) && (decide ((c4.getD (signs).toNat (0 : Int)) = (b.getD ((0 : Int)).toNat (0 : Int))))) = false → VCc99_k1 K (0 : Int) c5)))) ∧ ((decide ((b.getD ((0 : Int)).toNat (0 : Int)) < c0)) = false → (((decide (signs = i)) = true → VCc99_k1 K (0 : Int) c5) ∧ ((decide (signs = i)) = false → (((mget c5 [(b.getD ((0 : Int)).toNat (0 : Int)), signs, i]).isSome = true → VCc99_k1 K ((mget c5 [(b.getD ((0 : Int)).toNat (0 : Int)), signs, i]).getD (0 : Int)) c5) ∧ ((mget c5 [(b.getD ((0 : Int)).toNat (0 : Int)), signs, i]).isSome = false → Loop (σ := Int × Int × (List (LI × Int))) (fun s X => VCc99_l1 c0 c3 R b signs i K s.1 s.2.1 s.2.2 X) (((mget c5 [(b.getD ((0 : Int)).toNat (0 : Int)), signs, i]).getD (0 : Int)), (0 : Int), c5))))))))) ∧ ((decide ((b.length : Int) = (1 : Int))) = false → (InR (signs + (1 : Int)) ∧ Loop (σ := Int × Int × (List (LI × Int))) (fun s X => VCc99_l2 c0 c3 c4 R b signs i K s.1 s.2.1 s.2.2 X) ((0 : Int), (signs + (1 : Int)), c5)))))))))

set_option maxHeartbeats 4000000 in
theorem linkc99 (c0 : Int) (c1 : Int) (c2 : Int) (c3 : (List (Int × LI))) (c4 : LI) (R : LI → Int → Int → (List (LI × Int)) → (Int × (List (LI × Int)) → Prop) → Prop) (hR : ∀ (b : LI) (signs : Int) (i : Int) (c5 : (List (LI × Int))) (K : Int × (List (LI × Int)) → Prop), R b signs i c5 K → LCalls Try.prog 99 [41000, 41001] [41000] [hB 41000 [.pI c0, .pI c1, .pI c2, .p (.sl (.pr (.int .i64) (.sl (.int .i64)))) c3, .pS c4, .own 41001], (41001, [], .dict (.ar 2 (.int .i64)) (.int .i64) c5)] [.c (.ptr 41000 0), .c (.pS b), .c (.pI signs), .c (.pI i)] (fun av hp' => ∃ y : Int × (List (LI × Int)), av = .v (.c (.pI y.1)) ∧ hp' = [hB 41000 [.pI c0, .pI c1, .pI c2, .p (.sl (.pr (.int .i64) (.sl (.int .i64)))) c3, .pS c4, .own 41001], (41001, [], .dict (.ar 2 (.int .i64)) (.int .i64) y.2)] ∧ K y)) (b : LI) (signs : Int) (i : Int) (c5 : (List (LI × Int))) (K : Int × (List (LI × Int)) → Prop) (h : VCc99 c0 c1 c2 c3 c4 R b signs i c5 K) : LCalls Try.prog 99 [41000, 41001] [41000] [hB 41000 [.pI c0, .pI c1, .pI c2, .p (.sl (.pr (.int .i64) (.sl (.int .i64)))) c3, .pS c4, .own 41001], (41001, [], .dict (.ar 2 (.int .i64)) (.int .i64) c5)] [.c (.ptr 41000 0), .c (.pS b), .c (.pI signs), .c (.pI i)] (fun av hp' => ∃ y : Int × (List (LI × Int)), av = .v (.c (.pI y.1)) ∧ hp' = [hB 41000 [.pI c0, .pI c1, .pI c2, .p (.sl (.pr (.int .i64) (.sl (.int .i64)))) c3, .pS c4, .own 41001], (41001, [], .dict (.ar 2 (.int .i64)) (.int .i64) y.2)] ∧ K y) := by
 refine lcalls_of_aw [41000, 41001] [41000] [.t 8] Try.func99 rfl rfl (by kernel_rfl) (by kernel_rfl) (by kernel_rfl) ?_
 refine aw_conv [] (st' := (⟨63, [e34_8, e34_15 b, sI 2 signs, sI 3 i, e34_12], [e34_0 c0 c1 c2 c3 c4, e34_3 c5]⟩ : St)) (by kernel_rfl) ?_
 unfold VCc99 at h
 refine sr ?_
 refine rq 1 (ob := (Ts 1 True)) (st' := (⟨63, [e34_8, e34_15 b, sI 2 signs, sI 3 i, e34_12], [e34_0 c0 c1 c2 c3 c4, e34_3 c5]⟩ : St)) (by kernel_rfl) (tsI 1 trivial) ?_
 refine nn ?_
 refine aw_seq ?_
 refine sr ?_
 obtain ⟨o1, h⟩ := h
 refine rq 6 (ob := (Ts 4 (InR (i - signs) ∧ Ts 1 True))) (st' := (⟨63, [e34_8, e34_15 b, sI 2 signs, sI 3 i, sB 17 (decide ((i - signs) < (b.length : Int))), e34_12], [e34_0 c0 c1 c2 c3 c4, e34_3 c5]⟩ : St)) (by kernel_rfl) (tsI 4 ⟨o1, tsI 1 trivial⟩) ?_
 refine nn ?_
 refine aw_cond (b := (decide ((i - signs) < (b.length : Int)))) (by kernel_rfl) (fun hb => ?_) (fun hb => ?_)
 ·have h := h.1 hb
  refine sr ?_
  refine rq 1 (ob := (Ts 1 True)) (st' := (⟨63, [sI 8 (0 : Int), e34_12], [e34_0 c0 c1 c2 c3 c4, e34_3 c5]⟩ : St)) (by kernel_rfl) (tsI 1 trivial) ?_
  refine nn ?_
  refine aw_ret ?_
  refine thenQ_r ?_
  exact lret_r (σ := Int × (List (LI × Int))) (A := fun y => .v (.c (.pI y.1))) (H := fun y => [hB 41000 [.pI c0, .pI c1, .pI c2, .p (.sl (.pr (.int .i64) (.sl (.int .i64)))) c3, .pS c4, .own 41001], (41001, [], .dict (.ar 2 (.int .i64)) (.int .i64) y.2)]) (ob := True) ((0 : Int), c5) (by kernel_rfl) trivial rfl (by kernel_rfl) (by kernel_rfl) (by kernel_rfl) h
 ·have h := h.2 hb
  refine aw_skip ?_
  refine thenQ_n ?_
  refine aw_seq ?_
  refine sr ?_
  refine rq 3 (ob := (Ts 3 True)) (st' := (⟨63, [e34_8, e34_15 b, sI 2 signs, sI 3 i, sB 20 (decide ((b.length : Int) = (0 : Int))), e34_12], [e34_0 c0 c1 c2 c3 c4, e34_3 c5]⟩ : St)) (by kernel_rfl) (tsI 3 trivial) ?_
  refine nn ?_
  refine aw_cond (b := (decide ((b.length : Int) = (0 : Int)))) (by kernel_rfl) (fun hb => ?_) (fun hb => ?_)
  ·have h := h.1 hb
   refine aw_seq ?_
   refine sr ?_
   refine rq 3 (ob := (Ts 3 True)) (st' := (⟨63, [sB 23 (decide (signs = i)), e34_12], [e34_0 c0 c1 c2 c3 c4, e34_3 c5]⟩ : St)) (by kernel_rfl) (tsI 3 trivial) ?_
   refine nn ?_
   refine aw_cond (b := (decide (signs = i))) (by kernel_rfl) (fun hb => ?_) (fun hb => ?_)
   ·have h := h.1 hb
    refine sr ?_
    refine rq 1 (ob := (Ts 1 True)) (st' := (⟨63, [sI 8 (1 : Int), e34_12], [e34_0 c0 c1 c2 c3 c4, e34_3 c5]⟩ : St)) (by kernel_rfl) (tsI 1 trivial) ?_
    refine nn ?_
    refine aw_ret ?_
    refine thenQ_r ?_
    refine thenQ_r ?_
    exact lret_r (σ := Int × (List (LI × Int))) (A := fun y => .v (.c (.pI y.1))) (H := fun y => [hB 41000 [.pI c0, .pI c1, .pI c2, .p (.sl (.pr (.int .i64) (.sl (.int .i64)))) c3, .pS c4, .own 41001], (41001, [], .dict (.ar 2 (.int .i64)) (.int .i64) y.2)]) (ob := True) ((1 : Int), c5) (by kernel_rfl) trivial rfl (by kernel_rfl) (by kernel_rfl) (by kernel_rfl) h
   ·have h := h.2 hb
    refine aw_skip ?_
    refine thenQ_n ?_
    refine sr ?_
    refine rq 1 (ob := (Ts 1 True)) (st' := (⟨63, [sI 8 (0 : Int), e34_12], [e34_0 c0 c1 c2 c3 c4, e34_3 c5]⟩ : St)) (by kernel_rfl) (tsI 1 trivial) ?_
    refine nn ?_
    refine aw_ret ?_
    refine thenQ_r ?_
    exact lret_r (σ := Int × (List (LI × Int))) (A := fun y => .v (.c (.pI y.1))) (H := fun y => [hB 41000 [.pI c0, .pI c1, .pI c2, .p (.sl (.pr (.int .i64) (.sl (.int .i64)))) c3, .pS c4, .own 41001], (41001, [], .dict (.ar 2 (.int .i64)) (.int .i64) y.2)]) (ob := True) ((0 : Int), c5) (by kernel_rfl) trivial rfl (by kernel_rfl) (by kernel_rfl) (by kernel_rfl) h
  ·have h := h.2 hb
   refine aw_skip ?_
   refine thenQ_n ?_
   refine aw_seq ?_
   refine sr ?_
   refine rq 3 (ob := (Ts 3 True)) (st' := (⟨63, [e34_8, e34_15 b, sI 2 signs, sI 3 i, sB 26 (decide ((b.length : Int) = (1 : Int))), e34_12], [e34_0 c0 c1 c2 c3 c4, e34_3 c5]⟩ : St)) (by kernel_rfl) (tsI 3 trivial) ?_
   refine nn ?_
   refine aw_cond (b := (decide ((b.length : Int) = (1 : Int)))) (by kernel_rfl) (fun hb => ?_) (fun hb => ?_)
   ·have h := h.1 hb
    refine sr ?_
    obtain ⟨o1, h⟩ := h
    refine rq 6 (ob := (Ts 2 (inIdx (0 : Int) b.length ∧ Ts 3 True))) (st' := (⟨63, [sp 27 41000, sI 30 (b.getD ((0 : Int)).toNat (0 : Int)), sI 31 signs, sI 32 i, e34_12], [e34_0 c0 c1 c2 c3 c4, e34_3 c5]⟩ : St)) (by kernel_rfl) (tsI 2 ⟨o1, tsI 3 trivial⟩) ?_
    refine awl_inlr [.t 8] [41000, 41001] [.c (.ptr 41000 0), .c (.pI (b.getD ((0 : Int)).toNat (0 : Int))), .c (.pI signs), .c (.pI i)] [] rfl rfl (by kernel_rfl) rfl (by kernel_rfl) Try.call69 (by kernel_rfl) (by kernel_rfl) Try.func69 rfl rfl (by kernel_rfl) ?_
    refine aw_conv [] (st' := (⟨93, [e34_8, e34_1 b, sI 2 signs, sI 3 i, sp 120 41000, sI 123 (b.getD ((0 : Int)).toNat (0 : Int)), sI 124 signs, sI 125 i, e34_7], [e34_0 c0 c1 c2 c3 c4, e34_3 c5]⟩ : St)) (by kernel_rfl) ?_
    refine withJoinR (σ := Int × (List (LI × Int))) (fun s => (⟨93, [sI 8 s.1, e34_7], [e34_0 c0 c1 c2 c3 c4, (41001, [], .dict (.ar 2 (.int .i64)) (.int .i64) s.2)]⟩ : St)) (fun s => VCc99_k1 K s.1 s.2) (fun s h => ?_) (fun rest1 => ?_)
    ·obtain ⟨v8, l41001⟩ := s
     have h : VCc99_k1 K v8 l41001 := h
     unfold VCc99_k1 at h
     refine inlR_n (ob := True) (.v (.c (.pI v8))) (by kernel_rfl) trivial rfl ?_
     refine lpr (st' := (⟨63, [sI 33 v8, e34_12], [e34_0 c0 c1 c2 c3 c4, e34_6 l41001]⟩ : St)) (by kernel_rfl) ?_
     refine rq 1 (ob := (Ts 1 True)) (st' := (⟨63, [sI 8 v8, e34_12], [e34_0 c0 c1 c2 c3 c4, e34_6 l41001]⟩ : St)) (by kernel_rfl) (tsI 1 trivial) ?_
     refine nn ?_
     refine aw_ret ?_
     refine thenQ_r ?_
     exact lret_r (σ := Int × (List (LI × Int))) (A := fun y => .v (.c (.pI y.1))) (H := fun y => [hB 41000 [.pI c0, .pI c1, .pI c2, .p (.sl (.pr (.int .i64) (.sl (.int .i64)))) c3, .pS c4, .own 41001], (41001, [], .dict (.ar 2 (.int .i64)) (.int .i64) y.2)]) (ob := True) (v8, l41001) (by kernel_rfl) trivial rfl (by kernel_rfl) (by kernel_rfl) (by kernel_rfl) h
    ·refine sr ?_
     refine rq 1 (ob := (Ts 1 True)) (st' := (⟨93, [e34_8, e34_1 b, sI 2 signs, sI 3 i, e34_7], [e34_0 c0 c1 c2 c3 c4, e34_3 c5]⟩ : St)) (by kernel_rfl) (tsI 1 trivial) ?_
     refine nn ?_
     refine aw_seq ?_
     refine sr ?_
     refine rq 7 (ob := (Ts 7 True)) (st' := (⟨93, [e34_8, e34_1 b, sI 2 signs, sI 3 i, sB 19 (decide ((b.getD ((0 : Int)).toNat (0 : Int)) < c0)), e34_7], [e34_0 c0 c1 c2 c3 c4, e34_3 c5]⟩ : St)) (by kernel_rfl) (tsI 7 trivial) ?_
     refine nn ?_
     refine aw_cond (b := (decide ((b.getD ((0 : Int)).toNat (0 : Int)) < c0))) (by kernel_rfl) (fun hb => ?_) (fun hb => ?_)
     ·have h := h.1 hb
      refine aw_seq ?_
      refine sr ?_
      obtain ⟨o1, o2, h⟩ := h
      refine rq 15 (ob := (Ts 2 (InR (signs + (1 : Int)) ∧ Ts 2 (Ti 5 ((decide (i = (signs + (1 : Int)))) = true → True) (((decide (i = (signs + (1 : Int)))) = true → inIdx signs c4.length) ∧ Ti 3 ((decide (i = (signs + (1 : Int)))) = true → True) (Ts 1 True)))))) (st' := (⟨93, [sB 34 ((decide (i = (signs + (1 : Int)))) && (decide ((c4.getD (signs).toNat (0 : Int)) = (b.getD ((0 : Int)).toNat (0 : Int))))), e34_7], [e34_0 c0 c1 c2 c3 c4, e34_3 c5]⟩ : St)) (by kernel_rfl) (tsI 2 (⟨o1, tsI 2 (tiI 5 (fun _ => trivial) ⟨o2, tiI 3 (fun _ => trivial) (tsI 1 trivial)⟩)⟩)) ?_
      refine nn ?_
      refine aw_cond (b := ((decide (i = (signs + (1 : Int)))) && (decide ((c4.getD (signs).toNat (0 : Int)) = (b.getD ((0 : Int)).toNat (0 : Int)))))) (by kernel_rfl) (fun hb => ?_) (fun hb => ?_)
      ·have h := h.1 hb
       refine sr ?_
       refine rq 1 (ob := (Ts 1 True)) (st' := (⟨93, [sI 8 (1 : Int), e34_7], [e34_0 c0 c1 c2 c3 c4, e34_3 c5]⟩ : St)) (by kernel_rfl) (tsI 1 trivial) ?_
       refine nn ?_
       refine aw_ret ?_
       refine thenQ_r ?_
       refine thenQ_r ?_
       exact rest1 ((1 : Int), c5) h
      ·have h := h.2 hb
       refine aw_skip ?_
       refine thenQ_n ?_
       refine sr ?_
       refine rq 1 (ob := (Ts 1 True)) (st' := (⟨93, [sI 8 (0 : Int), e34_7], [e34_0 c0 c1 c2 c3 c4, e34_3 c5]⟩ : St)) (by kernel_rfl) (tsI 1 trivial) ?_
       refine nn ?_
       refine aw_ret ?_
       refine thenQ_r ?_
       exact rest1 ((0 : Int), c5) h
     ·have h := h.2 hb
      refine aw_skip ?_
      refine thenQ_n ?_
      refine aw_seq ?_
      refine sr ?_
      refine rq 3 (ob := (Ts 3 True)) (st' := (⟨93, [e34_8, e34_1 b, sI 2 signs, sI 3 i, sB 37 (decide (signs = i)), e34_7], [e34_0 c0 c1 c2 c3 c4, e34_3 c5]⟩ : St)) (by kernel_rfl) (tsI 3 trivial) ?_
      refine nn ?_
      refine aw_cond (b := (decide (signs = i))) (by kernel_rfl) (fun hb => ?_) (fun hb => ?_)
      ·have h := h.1 hb
       refine sr ?_
       refine rq 1 (ob := (Ts 1 True)) (st' := (⟨93, [sI 8 (0 : Int), e34_7], [e34_0 c0 c1 c2 c3 c4, e34_3 c5]⟩ : St)) (by kernel_rfl) (tsI 1 trivial) ?_
       refine nn ?_
       refine aw_ret ?_
       refine thenQ_r ?_
       exact rest1 ((0 : Int), c5) h
      ·have h := h.2 hb
       refine aw_skip ?_
       refine thenQ_n ?_
       refine sr ?_
       refine rq 14 (ob := (Ts 14 True)) (st' := (⟨93, [e34_8, e34_1 b, sI 2 signs, sI 3 i, e34_16 c5 b signs i, sB 10 ((mget c5 [(b.getD ((0 : Int)).toNat (0 : Int)), signs, i]).isSome), e34_7], [e34_0 c0 c1 c2 c3 c4, e34_3 c5]⟩ : St)) (by kernel_rfl) (tsI 14 trivial) ?_
       refine nn ?_
       refine aw_seq ?_
       refine sr ?_
       refine rq 1 (ob := (Ts 1 True)) (st' := (⟨93, [e34_8, e34_1 b, sI 2 signs, sI 3 i, e34_16 c5 b signs i, sB 50 ((mget c5 [(b.getD ((0 : Int)).toNat (0 : Int)), signs, i]).isSome), e34_7], [e34_0 c0 c1 c2 c3 c4, e34_3 c5]⟩ : St)) (by kernel_rfl) (tsI 1 trivial) ?_
       refine nn ?_
       refine aw_cond (b := (mget c5 [(b.getD ((0 : Int)).toNat (0 : Int)), signs, i]).isSome) (by kernel_rfl) (fun hb => ?_) (fun hb => ?_)
       ·have h := h.1 hb
        refine sr ?_
        refine rq 2 (ob := (Ts 2 True)) (st' := (⟨93, [sI 8 ((mget c5 [(b.getD ((0 : Int)).toNat (0 : Int)), signs, i]).getD (0 : Int)), e34_7], [e34_0 c0 c1 c2 c3 c4, e34_3 c5]⟩ : St)) (by kernel_rfl) (tsI 2 trivial) ?_
        refine nn ?_
        refine aw_ret ?_
        refine thenQ_r ?_
        exact rest1 (((mget c5 [(b.getD ((0 : Int)).toNat (0 : Int)), signs, i]).getD (0 : Int)), c5) h
       ·have h := h.2 hb
        refine aw_skip ?_
        refine thenQ_n ?_
        refine aw_seq ?_
        refine sr ?_
        refine rq 7 (ob := (Ts 7 True)) (st' := (⟨93, [e34_8, e34_1 b, sI 2 signs, sI 3 i, e34_16 c5 b signs i, e34_2 c3, e34_9 c3, sI 58 (0 : Int), e34_7], [e34_0 c0 c1 c2 c3 c4, e34_3 c5]⟩ : St)) (by kernel_rfl) (tsI 7 trivial) ?_
        refine nn ?_
        refine withJoin (σ := Int × (List (LI × Int))) (fun s => (⟨93, [e34_8, e34_1 b, sI 2 signs, sI 3 i, sI 9 s.1, e34_7], [e34_0 c0 c1 c2 c3 c4, (41001, [], .dict (.ar 2 (.int .i64)) (.int .i64) s.2)]⟩ : St)) (fun s => VCc99_k2 b signs i K s.1 s.2) (fun s h => ?_) (fun rest3 => ?_)
        ·obtain ⟨n, l41001⟩ := s
         have h : VCc99_k2 b signs i K n l41001 := h
         unfold VCc99_k2 at h
         refine thenQ_n ?_
         refine aw_seq ?_
         refine sr ?_
         refine rq 2 (ob := (Ts 2 True)) (st' := (⟨93, [e34_8, e34_1 b, sI 2 signs, sI 3 i, sI 9 n, sB 82 (decide ((1099511627776 : Int) < n)), e34_7], [e34_0 c0 c1 c2 c3 c4, e34_6 l41001]⟩ : St)) (by kernel_rfl) (tsI 2 trivial) ?_
         refine nn ?_
         refine withJoin (σ := Int) (fun s => (⟨93, [e34_8, e34_1 b, sI 2 signs, sI 3 i, sI 9 s, e34_7], [e34_0 c0 c1 c2 c3 c4, e34_6 l41001]⟩ : St)) (fun s => VCc99_k3 b signs i K l41001 s) (fun n2 h => ?_) (fun rest2 => ?_)
         ·have h : VCc99_k3 b signs i K l41001 n2 := h
          unfold VCc99_k3 at h
          refine thenQ_n ?_
          refine sr ?_
          refine rq 10 (ob := (Ts 10 True)) (st' := (⟨93, [sI 9 n2, e34_7], [e34_0 c0 c1 c2 c3 c4, (41001, [], .dict (.ar 2 (.int .i64)) (.int .i64) (mset l41001 [(b.getD ((0 : Int)).toNat (0 : Int)), signs, i] n2))]⟩ : St)) (by kernel_rfl) (tsI 10 trivial) ?_
          refine nsr ?_
          refine rq 2 (ob := (Ts 2 True)) (st' := (⟨93, [sI 8 n2, e34_7], [e34_0 c0 c1 c2 c3 c4, (41001, [], .dict (.ar 2 (.int .i64)) (.int .i64) (mset l41001 [(b.getD ((0 : Int)).toNat (0 : Int)), signs, i] n2))]⟩ : St)) (by kernel_rfl) (tsI 2 trivial) ?_
          refine nn ?_
          refine aw_ret ?_
          exact rest1 (n2, (mset l41001 [(b.getD ((0 : Int)).toNat (0 : Int)), signs, i] n2)) h
         ·refine aw_cond (b := (decide ((1099511627776 : Int) < n))) (by kernel_rfl) (fun hb => ?_) (fun hb => ?_)
          ·have h := h.1 hb
           refine aw_region ?_
           refine rq 1 (ob := (Ts 1 True)) (st' := (⟨93, [e34_8, e34_1 b, sI 2 signs, sI 3 i, sI 9 (1099511627777 : Int), e34_7], [e34_0 c0 c1 c2 c3 c4, e34_6 l41001]⟩ : St)) (by kernel_rfl) (tsI 1 trivial) ?_
           refine awl_nil ?_
           exact rest2 (1099511627777 : Int) h
          ·have h := h.2 hb
           refine cpr (st' := (⟨93, [e34_8, e34_1 b, sI 2 signs, sI 3 i, sI 9 n, e34_7], [e34_0 c0 c1 c2 c3 c4, e34_6 l41001]⟩ : St)) (by kernel_rfl) ?_
           refine aw_skip ?_
           exact rest2 n h
        ·refine aw_block ?_
         refine aw_loop (σ := Int × Int × (List (LI × Int))) (fun s => (⟨93, [e34_8, e34_1 b, sI 2 signs, sI 3 i, sI 9 s.1, e34_2 c3, e34_9 c3, sI 58 s.2.1, e34_7], [e34_0 c0 c1 c2 c3 c4, (41001, [], .dict (.ar 2 (.int .i64)) (.int .i64) s.2.2)]⟩ : St)) (fun s X => VCc99_l1 c0 c3 R b signs i K s.1 s.2.1 s.2.2 X) (s0 := (((mget c5 [(b.getD ((0 : Int)).toNat (0 : Int)), signs, i]).getD (0 : Int)), (0 : Int), c5)) (fun s X1 h => ?_) h
         obtain ⟨n, v58, l41001⟩ := s
         have h : VCc99_l1 c0 c3 R b signs i K n v58 l41001 X1 := h
         unfold VCc99_l1 at h
         refine sr ?_
         refine rq 1 (ob := (Ts 1 True)) (st' := (⟨93, [e34_8, e34_1 b, sI 2 signs, sI 3 i, sI 9 n, e34_2 c3, e34_9 c3, sI 58 v58, sB 59 (decide (v58 < (c3.length : Int))), e34_7], [e34_0 c0 c1 c2 c3 c4, e34_6 l41001]⟩ : St)) (by kernel_rfl) (tsI 1 trivial) ?_
         refine nn ?_
         refine aw_seq ?_
         refine aw_cond (b := (decide (v58 < (c3.length : Int)))) (by kernel_rfl) (fun hb => ?_) (fun hb => ?_)
         ·have h := h.1 hb
          refine aw_skip ?_
          refine thenQ_n ?_
          refine aw_seq ?_
          refine aw_block ?_
          refine sr ?_
          obtain ⟨o1, h⟩ := h
          refine rq 4 (ob := (inIdx v58 c3.length ∧ Ts 3 True)) (st' := (⟨93, [e34_8, e34_1 b, sI 2 signs, sI 3 i, sI 9 n, sp 12 12, e34_2 c3, e34_9 c3, sI 58 v58, e34_7], [e34_10 c3 v58, e34_0 c0 c1 c2 c3 c4, e34_6 l41001]⟩ : St)) (by kernel_rfl) (⟨o1, tsI 3 trivial⟩) ?_
          refine nn ?_
          refine aw_seq ?_
          refine awd_begin [] (by kernel_rfl) ?_
          obtain ⟨o1, h⟩ := h
          refine drq (by kernel_rfl) [0, 1, 2, 3, 4, 5, 6, 7, 8, 9] (ob := (Ts 8 (InR ((b.getD ((0 : Int)).toNat (0 : Int)) - c0) ∧ Ts 1 True))) (done' := [9, 8, 7, 6, 5, 4, 3, 2, 1, 0]) (st' := (⟨93, [e34_8, e34_1 b, sI 2 signs, sI 3 i, sI 9 n, sp 12 12, e34_2 c3, e34_9 c3, sI 58 v58, sB 71 (decide ((c3.getD (v58).toNat ((0 : Int), ([] : LI))).1 = ((b.getD ((0 : Int)).toNat (0 : Int)) - c0))), e34_7], [e34_10 c3 v58, e34_0 c0 c1 c2 c3 c4, e34_6 l41001]⟩ : St)) (by kernel_rfl) (tsI 8 ⟨o1, tsI 1 trivial⟩) ?_
          refine awd_done (by kernel_rfl) ?_
          refine thenQ_n ?_
          refine withJoin (σ := Int × (List (LI × Int))) (fun s => (⟨93, [e34_8, e34_1 b, sI 2 signs, sI 3 i, sI 9 s.1, e34_2 c3, e34_9 c3, sI 58 v58, e34_7], [e34_0 c0 c1 c2 c3 c4, (41001, [], .dict (.ar 2 (.int .i64)) (.int .i64) s.2)]⟩ : St)) (fun s => VCc99_k4 v58 X1 s.1 s.2) (fun s h => ?_) (fun rest4 => ?_)
          ·obtain ⟨n2, l410012⟩ := s
           have h : VCc99_k4 v58 X1 n2 l410012 := h
           unfold VCc99_k4 at h
           refine blockQ_n ?_
           refine thenQ_n ?_
           refine aw_region ?_
           obtain ⟨o1, h⟩ := h
           refine rq 2 (ob := (InR (v58 + (1 : Int)) ∧ Ts 1 True)) (st' := (⟨93, [e34_8, e34_1 b, sI 2 signs, sI 3 i, sI 9 n2, e34_2 c3, e34_9 c3, sI 58 (v58 + (1 : Int)), e34_7], [e34_0 c0 c1 c2 c3 c4, e34_4 l410012]⟩ : St)) (by kernel_rfl) (⟨o1, tsI 1 trivial⟩) ?_
           refine awl_nil ?_
           exact thenQ_n ⟨(n2, (v58 + (1 : Int)), l410012), rfl, h⟩
          ·refine aw_cond (b := (decide ((c3.getD (v58).toNat ((0 : Int), ([] : LI))).1 = ((b.getD ((0 : Int)).toNat (0 : Int)) - c0)))) (by kernel_rfl) (fun hb => ?_) (fun hb => ?_)
           ·have h := h.1 hb
            refine aw_region ?_
            refine rq 6 (ob := (Ts 6 True)) (st' := (⟨93, [e34_8, e34_1 b, sI 2 signs, sI 3 i, e34_2 c3, e34_9 c3, sI 58 v58, sI 72 n, sp 73 41000, e34_17 c3 v58, sI 76 signs, sI 77 i, e34_7], [e34_0 c0 c1 c2 c3 c4, e34_6 l41001]⟩ : St)) (by kernel_rfl) (tsI 6 trivial) ?_
            refine awl_lcall (σ := Int × (List (LI × Int))) [41000, 41001] [41000] [.c (.ptr 41000 0), .c (.pS ((c3.getD (v58).toNat ((0 : Int), ([] : LI))).2)), .c (.pI signs), .c (.pI i)] [] (fun ret78v => .v (.c (.pI ret78v.1))) (fun ret78v => [hB 41000 [.pI c0, .pI c1, .pI c2, .p (.sl (.pr (.int .i64) (.sl (.int .i64)))) c3, .pS c4, .own 41001], (41001, [], .dict (.ar 2 (.int .i64)) (.int .i64) ret78v.2)]) (fun (ret78v : Int × (List (LI × Int))) => (InR (n + ret78v.1) ∧ VCc99_k4 v58 X1 (n + ret78v.1) ret78v.2)) [hB 41000 [.pI c0, .pI c1, .pI c2, .p (.sl (.pr (.int .i64) (.sl (.int .i64)))) c3, .pS c4, .own 41001], (41001, [], .dict (.ar 2 (.int .i64)) (.int .i64) l41001)] (fun ret78v => (⟨93, [sI 78 ret78v.1, e34_8, e34_1 b, sI 2 signs, sI 3 i, e34_2 c3, e34_9 c3, sI 58 v58, sI 72 n, sp 73 41000, e34_17 c3 v58, sI 76 signs, sI 77 i, e34_7], [e34_0 c0 c1 c2 c3 c4, e34_13 ret78v]⟩ : St)) rfl rfl (by kernel_rfl) rfl (by kernel_rfl) Try.call99 (by kernel_rfl) (by kernel_rfl) (by kernel_rfl) (fun _ _ => rfl) (fun _ => by kernel_rfl) (hR ((c3.getD (v58).toNat ((0 : Int), ([] : LI))).2) signs i l41001 _ h) (fun ret78v h => ?_)
            refine lpr (st' := (⟨93, [e34_8, e34_1 b, sI 2 signs, sI 3 i, e34_2 c3, e34_9 c3, sI 58 v58, sI 72 n, sI 78 ret78v.1, e34_7], [e34_0 c0 c1 c2 c3 c4, e34_13 ret78v]⟩ : St)) (by kernel_rfl) ?_
            obtain ⟨o1, h⟩ := h
            refine rq 2 (ob := (InR (n + ret78v.1) ∧ Ts 1 True)) (st' := (⟨93, [e34_8, e34_1 b, sI 2 signs, sI 3 i, sI 9 (n + ret78v.1), e34_2 c3, e34_9 c3, sI 58 v58, e34_7], [e34_0 c0 c1 c2 c3 c4, e34_13 ret78v]⟩ : St)) (by kernel_rfl) (⟨o1, tsI 1 trivial⟩) ?_
            refine awl_nil ?_
            exact rest4 ((n + ret78v.1), ret78v.2) h
           ·have h := h.2 hb
            refine cpr (st' := (⟨93, [e34_8, e34_1 b, sI 2 signs, sI 3 i, sI 9 n, e34_2 c3, e34_9 c3, sI 58 v58, e34_7], [e34_0 c0 c1 c2 c3 c4, e34_6 l41001]⟩ : St)) (by kernel_rfl) ?_
            refine aw_skip ?_
            exact rest4 (n, l41001) h
         ·have h := h.2 hb
          refine cpr (st' := (⟨93, [e34_8, e34_1 b, sI 2 signs, sI 3 i, sI 9 n, e34_7], [e34_0 c0 c1 c2 c3 c4, e34_6 l41001]⟩ : St)) (by kernel_rfl) ?_
          refine aw_exit ?_
          refine thenQ_x ?_
          refine thenQ_x ?_
          refine blockQ_hit ?_
          exact rest3 (n, l41001) h
   ·have h := h.2 hb
    refine aw_skip ?_
    refine thenQ_n ?_
    refine sr ?_
    refine rq 1 (ob := (Ts 1 True)) (st' := (⟨63, [e34_8, e34_15 b, sI 2 signs, sI 3 i, sI 9 (0 : Int), e34_12], [e34_0 c0 c1 c2 c3 c4, e34_3 c5]⟩ : St)) (by kernel_rfl) (tsI 1 trivial) ?_
    refine nn ?_
    refine aw_seq ?_
    refine sr ?_
    obtain ⟨o1, h⟩ := h
    refine rq 3 (ob := (Ts 1 (InR (signs + (1 : Int)) ∧ Ts 1 True))) (st' := (⟨63, [e34_8, e34_15 b, sI 2 signs, sI 3 i, sI 9 (0 : Int), sI 10 (signs + (1 : Int)), e34_12], [e34_0 c0 c1 c2 c3 c4, e34_3 c5]⟩ : St)) (by kernel_rfl) (tsI 1 ⟨o1, tsI 1 trivial⟩) ?_
    refine nn ?_
    refine withJoin (σ := Int × (List (LI × Int))) (fun s => (⟨63, [sI 9 s.1, e34_12], [e34_0 c0 c1 c2 c3 c4, (41001, [], .dict (.ar 2 (.int .i64)) (.int .i64) s.2)]⟩ : St)) (fun s => VCc99_k5 K s.1 s.2) (fun s h => ?_) (fun rest5 => ?_)
    ·obtain ⟨sumv, l41001⟩ := s
     have h : VCc99_k5 K sumv l41001 := h
     unfold VCc99_k5 at h
     refine thenQ_n ?_
     refine sr ?_
     refine rq 2 (ob := (Ts 2 True)) (st' := (⟨63, [sI 8 sumv, e34_12], [e34_0 c0 c1 c2 c3 c4, e34_6 l41001]⟩ : St)) (by kernel_rfl) (tsI 2 trivial) ?_
     refine nn ?_
     refine aw_ret ?_
     exact lret_r (σ := Int × (List (LI × Int))) (A := fun y => .v (.c (.pI y.1))) (H := fun y => [hB 41000 [.pI c0, .pI c1, .pI c2, .p (.sl (.pr (.int .i64) (.sl (.int .i64)))) c3, .pS c4, .own 41001], (41001, [], .dict (.ar 2 (.int .i64)) (.int .i64) y.2)]) (ob := True) (sumv, l41001) (by kernel_rfl) trivial rfl (by kernel_rfl) (by kernel_rfl) (by kernel_rfl) h
    ·refine aw_block ?_
     refine aw_loop (σ := Int × Int × (List (LI × Int))) (fun s => (⟨63, [e34_8, e34_15 b, sI 2 signs, sI 3 i, sI 9 s.1, sI 10 s.2.1, e34_12], [e34_0 c0 c1 c2 c3 c4, (41001, [], .dict (.ar 2 (.int .i64)) (.int .i64) s.2.2)]⟩ : St)) (fun s X => VCc99_l2 c0 c3 c4 R b signs i K s.1 s.2.1 s.2.2 X) (s0 := ((0 : Int), (signs + (1 : Int)), c5)) (fun s X2 h => ?_) h
     obtain ⟨sumv, m, l41001⟩ := s
     have h : VCc99_l2 c0 c3 c4 R b signs i K sumv m l41001 X2 := h
     unfold VCc99_l2 at h
     refine aw_seq ?_
     refine sr ?_
     refine rq 3 (ob := (Ts 3 True)) (st' := (⟨63, [e34_8, e34_15 b, sI 2 signs, sI 3 i, sI 9 sumv, sI 10 m, sB 38 (decide (m < i)), e34_12], [e34_0 c0 c1 c2 c3 c4, e34_6 l41001]⟩ : St)) (by kernel_rfl) (tsI 3 trivial) ?_
     refine nn ?_
     refine aw_cond (b := (decide (m < i))) (by kernel_rfl) (fun hb => ?_) (fun hb => ?_)
     ·have h := h.1 hb
      refine aw_skip ?_
      refine thenQ_n ?_
      refine aw_seq ?_
      refine aw_block ?_
      refine sr ?_
      obtain ⟨o1, h⟩ := h
      refine rq 5 (ob := (Ts 2 ((0 ≤ (1 : Int) ∧ (1 : Int) ≤ (b.length : Int)) ∧ Ts 2 True))) (st' := (⟨63, [e34_8, e34_15 b, sI 2 signs, sI 3 i, sI 9 sumv, sI 10 m, sp 41 41000, s1 43 (.pS (b.drop ((1 : Int)).toNat)), sI 44 m, sI 45 i, e34_12], [e34_0 c0 c1 c2 c3 c4, e34_6 l41001]⟩ : St)) (by kernel_rfl) (tsI 2 ⟨o1, tsI 2 trivial⟩) ?_
      refine awl_lcall (σ := Int × (List (LI × Int))) [41000, 41001] [41000] [.c (.ptr 41000 0), .c (.pS (b.drop ((1 : Int)).toNat)), .c (.pI m), .c (.pI i)] [] (fun ret46v => .v (.c (.pI ret46v.1))) (fun ret46v => [hB 41000 [.pI c0, .pI c1, .pI c2, .p (.sl (.pr (.int .i64) (.sl (.int .i64)))) c3, .pS c4, .own 41001], (41001, [], .dict (.ar 2 (.int .i64)) (.int .i64) ret46v.2)]) (fun (ret46v : Int × (List (LI × Int))) => (((decide ((0 : Int) < ret46v.1)) = true → (inIdx (0 : Int) b.length ∧ (((decide ((b.getD ((0 : Int)).toNat (0 : Int)) < c0)) = true → (InR (signs + (1 : Int)) ∧ ((decide (m = (signs + (1 : Int)))) = true → inIdx signs c4.length) ∧ ((((decide (m = (signs + (1 : Int)))) && (decide ((c4.getD (signs).toNat (0 : Int)) = (b.getD ((0 : Int)).toNat (0 : Int))))) = true → VCc99_k8 sumv m X2 ret46v (1 : Int) ret46v.2) ∧ (((decide (m = (signs + (1 : Int)))) && (decide ((c4.getD (signs).toNat (0 : Int)) = (b.getD ((0 : Int)).toNat (0 : Int))))) = false → VCc99_k8 sumv m X2 ret46v (0 : Int) ret46v.2)))) ∧ ((decide ((b.getD ((0 : Int)).toNat (0 : Int)) < c0)) = false → (((decide (signs = m)) = true → VCc99_k8 sumv m X2 ret46v (0 : Int) ret46v.2) ∧ ((decide (signs = m)) = false → (((mget ret46v.2 [(b.getD ((0 : Int)).toNat (0 : Int)), signs, m]).isSome = true → VCc99_k8 sumv m X2 ret46v ((mget ret46v.2 [(b.getD ((0 : Int)).toNat (0 : Int)), signs, m]).getD (0 : Int)) ret46v.2) ∧ ((mget ret46v.2 [(b.getD ((0 : Int)).toNat (0 : Int)), signs, m]).isSome = false → Loop (σ := Int × Int × (List (LI × Int))) (fun s X => VCc99_l3 c0 c3 R b signs sumv m X2 ret46v s.1 s.2.1 s.2.2 X) (((mget ret46v.2 [(b.getD ((0 : Int)).toNat (0 : Int)), signs, m]).getD (0 : Int)), (0 : Int), ret46v.2))))))))) ∧ ((decide ((0 : Int) < ret46v.1)) = false → VCc99_k6 m X2 sumv ret46v.2))) [hB 41000 [.pI c0, .pI c1, .pI c2, .p (.sl (.pr (.int .i64) (.sl (.int .i64)))) c3, .pS c4, .own 41001], (41001, [], .dict (.ar 2 (.int .i64)) (.int .i64) l41001)] (fun ret46v => (⟨63, [sI 46 ret46v.1, e34_8, e34_15 b, sI 2 signs, sI 3 i, sI 9 sumv, sI 10 m, sp 41 41000, s1 43 (.pS (b.drop ((1 : Int)).toNat)), sI 44 m, sI 45 i, e34_12], [e34_0 c0 c1 c2 c3 c4, e34_5 ret46v]⟩ : St)) rfl rfl (by kernel_rfl) rfl (by kernel_rfl) Try.call99 (by kernel_rfl) (by kernel_rfl) (by kernel_rfl) (fun _ _ => rfl) (fun _ => by kernel_rfl) (hR (b.drop ((1 : Int)).toNat) m i l41001 _ h) (fun ret46v h => ?_)
      refine lpr (st' := (⟨63, [e34_8, e34_15 b, sI 2 signs, sI 3 i, sI 9 sumv, sI 10 m, sI 46 ret46v.1, e34_12], [e34_0 c0 c1 c2 c3 c4, e34_5 ret46v]⟩ : St)) (by kernel_rfl) ?_
      refine rq 1 (ob := (Ts 1 True)) (st' := (⟨63, [e34_8, e34_15 b, sI 2 signs, sI 3 i, sI 9 sumv, sI 10 m, sI 11 ret46v.1, e34_12], [e34_0 c0 c1 c2 c3 c4, e34_5 ret46v]⟩ : St)) (by kernel_rfl) (tsI 1 trivial) ?_
      refine nn ?_
      refine aw_seq ?_
      refine sr ?_
      refine rq 2 (ob := (Ts 2 True)) (st' := (⟨63, [e34_8, e34_15 b, sI 2 signs, sI 3 i, sI 9 sumv, sI 10 m, sI 11 ret46v.1, sB 48 (decide ((0 : Int) < ret46v.1)), e34_12], [e34_0 c0 c1 c2 c3 c4, e34_5 ret46v]⟩ : St)) (by kernel_rfl) (tsI 2 trivial) ?_
      refine nn ?_
      refine withJoin (σ := Int × (List (LI × Int))) (fun s => (⟨63, [e34_8, e34_15 b, sI 2 signs, sI 3 i, sI 9 s.1, sI 10 m, e34_12], [e34_0 c0 c1 c2 c3 c4, (41001, [], .dict (.ar 2 (.int .i64)) (.int .i64) s.2)]⟩ : St)) (fun s => VCc99_k6 m X2 s.1 s.2) (fun s h => ?_) (fun rest7 => ?_)
      ·obtain ⟨sumv2, l410012⟩ := s
       have h : VCc99_k6 m X2 sumv2 l410012 := h
       unfold VCc99_k6 at h
       refine thenQ_n ?_
       refine sr ?_
       refine rq 2 (ob := (Ts 2 True)) (st' := (⟨63, [e34_8, e34_15 b, sI 2 signs, sI 3 i, sI 9 sumv2, sI 10 m, sB 61 (decide ((1099511627776 : Int) < sumv2)), e34_12], [e34_0 c0 c1 c2 c3 c4, e34_4 l410012]⟩ : St)) (by kernel_rfl) (tsI 2 trivial) ?_
       refine nn ?_
       refine withJoin (σ := Int) (fun s => (⟨63, [e34_8, e34_15 b, sI 2 signs, sI 3 i, sI 9 s, sI 10 m, e34_12], [e34_0 c0 c1 c2 c3 c4, e34_4 l410012]⟩ : St)) (fun s => VCc99_k7 m X2 l410012 s) (fun sumv3 h => ?_) (fun rest6 => ?_)
       ·have h : VCc99_k7 m X2 l410012 sumv3 := h
        unfold VCc99_k7 at h
        refine blockQ_n ?_
        refine thenQ_n ?_
        refine aw_region ?_
        obtain ⟨o1, h⟩ := h
        refine rq 3 (ob := (Ts 1 (InR (m + (1 : Int)) ∧ Ts 1 True))) (st' := (⟨63, [e34_8, e34_15 b, sI 2 signs, sI 3 i, sI 9 sumv3, sI 10 (m + (1 : Int)), e34_12], [e34_0 c0 c1 c2 c3 c4, e34_4 l410012]⟩ : St)) (by kernel_rfl) (tsI 1 ⟨o1, tsI 1 trivial⟩) ?_
        refine awl_nil ?_
        exact thenQ_n ⟨(sumv3, (m + (1 : Int)), l410012), rfl, h⟩
       ·refine aw_cond (b := (decide ((1099511627776 : Int) < sumv2))) (by kernel_rfl) (fun hb => ?_) (fun hb => ?_)
        ·have h := h.1 hb
         refine aw_region ?_
         refine rq 1 (ob := (Ts 1 True)) (st' := (⟨63, [e34_8, e34_15 b, sI 2 signs, sI 3 i, sI 9 (1099511627777 : Int), sI 10 m, e34_12], [e34_0 c0 c1 c2 c3 c4, e34_4 l410012]⟩ : St)) (by kernel_rfl) (tsI 1 trivial) ?_
         refine awl_nil ?_
         exact rest6 (1099511627777 : Int) h
        ·have h := h.2 hb
         refine cpr (st' := (⟨63, [e34_8, e34_15 b, sI 2 signs, sI 3 i, sI 9 sumv2, sI 10 m, e34_12], [e34_0 c0 c1 c2 c3 c4, e34_4 l410012]⟩ : St)) (by kernel_rfl) ?_
         refine aw_skip ?_
         exact rest6 sumv2 h
      ·refine aw_cond (b := (decide ((0 : Int) < ret46v.1))) (by kernel_rfl) (fun hb => ?_) (fun hb => ?_)
       ·have h := h.1 hb
        refine aw_region ?_
        obtain ⟨o1, h⟩ := h
        refine rq 7 (ob := (Ts 3 (inIdx (0 : Int) b.length ∧ Ts 3 True))) (st' := (⟨63, [e34_8, e34_15 b, sI 2 signs, sI 3 i, sI 10 m, sI 11 ret46v.1, sI 49 sumv, sp 50 41000, sI 53 (b.getD ((0 : Int)).toNat (0 : Int)), sI 54 signs, sI 55 m, e34_12], [e34_0 c0 c1 c2 c3 c4, e34_5 ret46v]⟩ : St)) (by kernel_rfl) (tsI 3 ⟨o1, tsI 3 trivial⟩) ?_
        refine awl_inlr [.t 8] [41000, 41001] [.c (.ptr 41000 0), .c (.pI (b.getD ((0 : Int)).toNat (0 : Int))), .c (.pI signs), .c (.pI m)] [] rfl rfl (by kernel_rfl) rfl (by kernel_rfl) Try.call69 (by kernel_rfl) (by kernel_rfl) Try.func69 rfl rfl (by kernel_rfl) ?_
        refine aw_conv [] (st' := (⟨93, [e34_8, e34_1 b, sI 2 signs, sI 3 m, e34_14, e34_11 b, sI 95 signs, sI 96 i, sI 103 m, sI 104 ret46v.1, sI 142 sumv, sp 143 41000, sI 146 (b.getD ((0 : Int)).toNat (0 : Int)), sI 147 signs, sI 148 m, e34_7], [e34_0 c0 c1 c2 c3 c4, e34_5 ret46v]⟩ : St)) (by kernel_rfl) ?_
        refine withJoinR (σ := Int × (List (LI × Int))) (fun s => (⟨93, [sI 8 s.1, e34_14, e34_11 b, sI 95 signs, sI 96 i, sI 103 m, sI 104 ret46v.1, sI 142 sumv, e34_7], [e34_0 c0 c1 c2 c3 c4, (41001, [], .dict (.ar 2 (.int .i64)) (.int .i64) s.2)]⟩ : St)) (fun s => VCc99_k8 sumv m X2 ret46v s.1 s.2) (fun s h => ?_) (fun rest8 => ?_)
        ·obtain ⟨v8, l410012⟩ := s
         have h : VCc99_k8 sumv m X2 ret46v v8 l410012 := h
         unfold VCc99_k8 at h
         refine inlR_n (ob := True) (.v (.c (.pI v8))) (by kernel_rfl) trivial rfl ?_
         refine lpr (st' := (⟨63, [e34_8, e34_15 b, sI 2 signs, sI 3 i, sI 10 m, sI 11 ret46v.1, sI 49 sumv, sI 56 v8, e34_12], [e34_0 c0 c1 c2 c3 c4, e34_4 l410012]⟩ : St)) (by kernel_rfl) ?_
         refine rq 1 (ob := (Ts 1 True)) (st' := (⟨63, [e34_8, e34_15 b, sI 2 signs, sI 3 i, sI 10 m, sI 49 sumv, sI 56 v8, sI 57 ret46v.1, e34_12], [e34_0 c0 c1 c2 c3 c4, e34_4 l410012]⟩ : St)) (by kernel_rfl) (tsI 1 trivial) ?_
         refine lcq (d := 58) [.d (.int .i64), .d (.int .i64)] (fun ret58v => (⟨63, [e34_8, e34_15 b, sI 2 signs, sI 3 i, sI 10 m, sI 49 sumv, sI 58 ret58v, e34_12], [e34_0 c0 c1 c2 c3 c4, e34_4 l410012]⟩ : St)) (by kernel_rfl) Try.call125 (fun _ => by kernel_rfl) (link125 v8 ret46v.1 _ h) (fun ret58v h => ?_)
         obtain ⟨o1, h⟩ := h
         refine rq 2 (ob := (InR (sumv + ret58v) ∧ Ts 1 True)) (st' := (⟨63, [e34_8, e34_15 b, sI 2 signs, sI 3 i, sI 9 (sumv + ret58v), sI 10 m, e34_12], [e34_0 c0 c1 c2 c3 c4, e34_4 l410012]⟩ : St)) (by kernel_rfl) (⟨o1, tsI 1 trivial⟩) ?_
         refine awl_nil ?_
         exact rest7 ((sumv + ret58v), l410012) h
        ·refine sr ?_
         refine rq 1 (ob := (Ts 1 True)) (st' := (⟨93, [e34_8, e34_1 b, sI 2 signs, sI 3 m, e34_14, e34_11 b, sI 95 signs, sI 96 i, sI 103 m, sI 104 ret46v.1, sI 142 sumv, e34_7], [e34_0 c0 c1 c2 c3 c4, e34_5 ret46v]⟩ : St)) (by kernel_rfl) (tsI 1 trivial) ?_
         refine nn ?_
         refine aw_seq ?_
         refine sr ?_
         refine rq 7 (ob := (Ts 7 True)) (st' := (⟨93, [e34_8, e34_1 b, sI 2 signs, sI 3 m, sB 19 (decide ((b.getD ((0 : Int)).toNat (0 : Int)) < c0)), e34_14, e34_11 b, sI 95 signs, sI 96 i, sI 103 m, sI 104 ret46v.1, sI 142 sumv, e34_7], [e34_0 c0 c1 c2 c3 c4, e34_5 ret46v]⟩ : St)) (by kernel_rfl) (tsI 7 trivial) ?_
         refine nn ?_
         refine aw_cond (b := (decide ((b.getD ((0 : Int)).toNat (0 : Int)) < c0))) (by kernel_rfl) (fun hb => ?_) (fun hb => ?_)
         ·have h := h.1 hb
          refine aw_seq ?_
          refine sr ?_
          obtain ⟨o1, o2, h⟩ := h
          refine rq 15 (ob := (Ts 2 (InR (signs + (1 : Int)) ∧ Ts 2 (Ti 5 ((decide (m = (signs + (1 : Int)))) = true → True) (((decide (m = (signs + (1 : Int)))) = true → inIdx signs c4.length) ∧ Ti 3 ((decide (m = (signs + (1 : Int)))) = true → True) (Ts 1 True)))))) (st' := (⟨93, [sB 34 ((decide (m = (signs + (1 : Int)))) && (decide ((c4.getD (signs).toNat (0 : Int)) = (b.getD ((0 : Int)).toNat (0 : Int))))), e34_14, e34_11 b, sI 95 signs, sI 96 i, sI 103 m, sI 104 ret46v.1, sI 142 sumv, e34_7], [e34_0 c0 c1 c2 c3 c4, e34_5 ret46v]⟩ : St)) (by kernel_rfl) (tsI 2 (⟨o1, tsI 2 (tiI 5 (fun _ => trivial) ⟨o2, tiI 3 (fun _ => trivial) (tsI 1 trivial)⟩)⟩)) ?_
          refine nn ?_
          refine aw_cond (b := ((decide (m = (signs + (1 : Int)))) && (decide ((c4.getD (signs).toNat (0 : Int)) = (b.getD ((0 : Int)).toNat (0 : Int)))))) (by kernel_rfl) (fun hb => ?_) (fun hb => ?_)
          ·have h := h.1 hb
           refine sr ?_
           refine rq 1 (ob := (Ts 1 True)) (st' := (⟨93, [sI 8 (1 : Int), e34_14, e34_11 b, sI 95 signs, sI 96 i, sI 103 m, sI 104 ret46v.1, sI 142 sumv, e34_7], [e34_0 c0 c1 c2 c3 c4, e34_5 ret46v]⟩ : St)) (by kernel_rfl) (tsI 1 trivial) ?_
           refine nn ?_
           refine aw_ret ?_
           refine thenQ_r ?_
           refine thenQ_r ?_
           exact rest8 ((1 : Int), ret46v.2) h
          ·have h := h.2 hb
           refine aw_skip ?_
           refine thenQ_n ?_
           refine sr ?_
           refine rq 1 (ob := (Ts 1 True)) (st' := (⟨93, [sI 8 (0 : Int), e34_14, e34_11 b, sI 95 signs, sI 96 i, sI 103 m, sI 104 ret46v.1, sI 142 sumv, e34_7], [e34_0 c0 c1 c2 c3 c4, e34_5 ret46v]⟩ : St)) (by kernel_rfl) (tsI 1 trivial) ?_
           refine nn ?_
           refine aw_ret ?_
           refine thenQ_r ?_
           exact rest8 ((0 : Int), ret46v.2) h
         ·have h := h.2 hb
          refine aw_skip ?_
          refine thenQ_n ?_
          refine aw_seq ?_
          refine sr ?_
          refine rq 3 (ob := (Ts 3 True)) (st' := (⟨93, [e34_8, e34_1 b, sI 2 signs, sI 3 m, sB 37 (decide (signs = m)), e34_14, e34_11 b, sI 95 signs, sI 96 i, sI 103 m, sI 104 ret46v.1, sI 142 sumv, e34_7], [e34_0 c0 c1 c2 c3 c4, e34_5 ret46v]⟩ : St)) (by kernel_rfl) (tsI 3 trivial) ?_
          refine nn ?_
          refine aw_cond (b := (decide (signs = m))) (by kernel_rfl) (fun hb => ?_) (fun hb => ?_)
          ·have h := h.1 hb
           refine sr ?_
           refine rq 1 (ob := (Ts 1 True)) (st' := (⟨93, [sI 8 (0 : Int), e34_14, e34_11 b, sI 95 signs, sI 96 i, sI 103 m, sI 104 ret46v.1, sI 142 sumv, e34_7], [e34_0 c0 c1 c2 c3 c4, e34_5 ret46v]⟩ : St)) (by kernel_rfl) (tsI 1 trivial) ?_
           refine nn ?_
           refine aw_ret ?_
           refine thenQ_r ?_
           exact rest8 ((0 : Int), ret46v.2) h
          ·have h := h.2 hb
           refine aw_skip ?_
           refine thenQ_n ?_
           refine sr ?_
           refine rq 14 (ob := (Ts 14 True)) (st' := (⟨93, [e34_8, e34_1 b, sI 2 signs, sI 3 m, sI 9 ((mget ret46v.2 [(b.getD ((0 : Int)).toNat (0 : Int)), signs, m]).getD (0 : Int)), sB 10 ((mget ret46v.2 [(b.getD ((0 : Int)).toNat (0 : Int)), signs, m]).isSome), e34_14, e34_11 b, sI 95 signs, sI 96 i, sI 103 m, sI 104 ret46v.1, sI 142 sumv, e34_7], [e34_0 c0 c1 c2 c3 c4, e34_5 ret46v]⟩ : St)) (by kernel_rfl) (tsI 14 trivial) ?_
           refine nn ?_
           refine aw_seq ?_
           refine sr ?_
           refine rq 1 (ob := (Ts 1 True)) (st' := (⟨93, [e34_8, e34_1 b, sI 2 signs, sI 3 m, sI 9 ((mget ret46v.2 [(b.getD ((0 : Int)).toNat (0 : Int)), signs, m]).getD (0 : Int)), sB 50 ((mget ret46v.2 [(b.getD ((0 : Int)).toNat (0 : Int)), signs, m]).isSome), e34_14, e34_11 b, sI 95 signs, sI 96 i, sI 103 m, sI 104 ret46v.1, sI 142 sumv, e34_7], [e34_0 c0 c1 c2 c3 c4, e34_5 ret46v]⟩ : St)) (by kernel_rfl) (tsI 1 trivial) ?_
           refine nn ?_
           refine aw_cond (b := (mget ret46v.2 [(b.getD ((0 : Int)).toNat (0 : Int)), signs, m]).isSome) (by kernel_rfl) (fun hb => ?_) (fun hb => ?_)
           ·have h := h.1 hb
            refine sr ?_
            refine rq 2 (ob := (Ts 2 True)) (st' := (⟨93, [sI 8 ((mget ret46v.2 [(b.getD ((0 : Int)).toNat (0 : Int)), signs, m]).getD (0 : Int)), e34_14, e34_11 b, sI 95 signs, sI 96 i, sI 103 m, sI 104 ret46v.1, sI 142 sumv, e34_7], [e34_0 c0 c1 c2 c3 c4, e34_5 ret46v]⟩ : St)) (by kernel_rfl) (tsI 2 trivial) ?_
            refine nn ?_
            refine aw_ret ?_
            refine thenQ_r ?_
            exact rest8 (((mget ret46v.2 [(b.getD ((0 : Int)).toNat (0 : Int)), signs, m]).getD (0 : Int)), ret46v.2) h
           ·have h := h.2 hb
            refine aw_skip ?_
            refine thenQ_n ?_
            refine aw_seq ?_
            refine sr ?_
            refine rq 7 (ob := (Ts 7 True)) (st' := (⟨93, [e34_8, e34_1 b, sI 2 signs, sI 3 m, sI 9 ((mget ret46v.2 [(b.getD ((0 : Int)).toNat (0 : Int)), signs, m]).getD (0 : Int)), e34_2 c3, e34_9 c3, sI 58 (0 : Int), e34_14, e34_11 b, sI 95 signs, sI 96 i, sI 103 m, sI 104 ret46v.1, sI 142 sumv, e34_7], [e34_0 c0 c1 c2 c3 c4, e34_5 ret46v]⟩ : St)) (by kernel_rfl) (tsI 7 trivial) ?_
            refine nn ?_
            refine withJoin (σ := Int × (List (LI × Int))) (fun s => (⟨93, [e34_8, e34_1 b, sI 2 signs, sI 3 m, sI 9 s.1, e34_14, e34_11 b, sI 95 signs, sI 96 i, sI 103 m, sI 104 ret46v.1, sI 142 sumv, e34_7], [e34_0 c0 c1 c2 c3 c4, (41001, [], .dict (.ar 2 (.int .i64)) (.int .i64) s.2)]⟩ : St)) (fun s => VCc99_k9 b signs sumv m X2 ret46v s.1 s.2) (fun s h => ?_) (fun rest10 => ?_)
            ·obtain ⟨n, l410012⟩ := s
             have h : VCc99_k9 b signs sumv m X2 ret46v n l410012 := h
             unfold VCc99_k9 at h
             refine thenQ_n ?_
             refine aw_seq ?_
             refine sr ?_
             refine rq 2 (ob := (Ts 2 True)) (st' := (⟨93, [e34_8, e34_1 b, sI 2 signs, sI 3 m, sI 9 n, sB 82 (decide ((1099511627776 : Int) < n)), e34_14, e34_11 b, sI 95 signs, sI 96 i, sI 103 m, sI 104 ret46v.1, sI 142 sumv, e34_7], [e34_0 c0 c1 c2 c3 c4, e34_4 l410012]⟩ : St)) (by kernel_rfl) (tsI 2 trivial) ?_
             refine nn ?_
             refine withJoin (σ := Int) (fun s => (⟨93, [e34_8, e34_1 b, sI 2 signs, sI 3 m, sI 9 s, e34_14, e34_11 b, sI 95 signs, sI 96 i, sI 103 m, sI 104 ret46v.1, sI 142 sumv, e34_7], [e34_0 c0 c1 c2 c3 c4, e34_4 l410012]⟩ : St)) (fun s => VCc99_k10 b signs sumv m X2 ret46v l410012 s) (fun n2 h => ?_) (fun rest9 => ?_)
             ·have h : VCc99_k10 b signs sumv m X2 ret46v l410012 n2 := h
              unfold VCc99_k10 at h
              refine thenQ_n ?_
              refine sr ?_
              refine rq 10 (ob := (Ts 10 True)) (st' := (⟨93, [sI 9 n2, e34_14, e34_11 b, sI 95 signs, sI 96 i, sI 103 m, sI 104 ret46v.1, sI 142 sumv, e34_7], [e34_0 c0 c1 c2 c3 c4, (41001, [], .dict (.ar 2 (.int .i64)) (.int .i64) (mset l410012 [(b.getD ((0 : Int)).toNat (0 : Int)), signs, m] n2))]⟩ : St)) (by kernel_rfl) (tsI 10 trivial) ?_
              refine nsr ?_
              refine rq 2 (ob := (Ts 2 True)) (st' := (⟨93, [sI 8 n2, e34_14, e34_11 b, sI 95 signs, sI 96 i, sI 103 m, sI 104 ret46v.1, sI 142 sumv, e34_7], [e34_0 c0 c1 c2 c3 c4, (41001, [], .dict (.ar 2 (.int .i64)) (.int .i64) (mset l410012 [(b.getD ((0 : Int)).toNat (0 : Int)), signs, m] n2))]⟩ : St)) (by kernel_rfl) (tsI 2 trivial) ?_
              refine nn ?_
              refine aw_ret ?_
              exact rest8 (n2, (mset l410012 [(b.getD ((0 : Int)).toNat (0 : Int)), signs, m] n2)) h
             ·refine aw_cond (b := (decide ((1099511627776 : Int) < n))) (by kernel_rfl) (fun hb => ?_) (fun hb => ?_)
              ·have h := h.1 hb
               refine aw_region ?_
               refine rq 1 (ob := (Ts 1 True)) (st' := (⟨93, [e34_8, e34_1 b, sI 2 signs, sI 3 m, sI 9 (1099511627777 : Int), e34_14, e34_11 b, sI 95 signs, sI 96 i, sI 103 m, sI 104 ret46v.1, sI 142 sumv, e34_7], [e34_0 c0 c1 c2 c3 c4, e34_4 l410012]⟩ : St)) (by kernel_rfl) (tsI 1 trivial) ?_
               refine awl_nil ?_
               exact rest9 (1099511627777 : Int) h
              ·have h := h.2 hb
               refine cpr (st' := (⟨93, [e34_8, e34_1 b, sI 2 signs, sI 3 m, sI 9 n, e34_14, e34_11 b, sI 95 signs, sI 96 i, sI 103 m, sI 104 ret46v.1, sI 142 sumv, e34_7], [e34_0 c0 c1 c2 c3 c4, e34_4 l410012]⟩ : St)) (by kernel_rfl) ?_
               refine aw_skip ?_
               exact rest9 n h
            ·refine aw_block ?_
             refine aw_loop (σ := Int × Int × (List (LI × Int))) (fun s => (⟨93, [e34_8, e34_1 b, sI 2 signs, sI 3 m, sI 9 s.1, e34_2 c3, e34_9 c3, sI 58 s.2.1, e34_14, e34_11 b, sI 95 signs, sI 96 i, sI 103 m, sI 104 ret46v.1, sI 142 sumv, e34_7], [e34_0 c0 c1 c2 c3 c4, (41001, [], .dict (.ar 2 (.int .i64)) (.int .i64) s.2.2)]⟩ : St)) (fun s X => VCc99_l3 c0 c3 R b signs sumv m X2 ret46v s.1 s.2.1 s.2.2 X) (s0 := (((mget ret46v.2 [(b.getD ((0 : Int)).toNat (0 : Int)), signs, m]).getD (0 : Int)), (0 : Int), ret46v.2)) (fun s X3 h => ?_) h
             obtain ⟨n, v58, l410012⟩ := s
             have h : VCc99_l3 c0 c3 R b signs sumv m X2 ret46v n v58 l410012 X3 := h
             unfold VCc99_l3 at h
             refine sr ?_
             refine rq 1 (ob := (Ts 1 True)) (st' := (⟨93, [e34_8, e34_1 b, sI 2 signs, sI 3 m, sI 9 n, e34_2 c3, e34_9 c3, sI 58 v58, sB 59 (decide (v58 < (c3.length : Int))), e34_14, e34_11 b, sI 95 signs, sI 96 i, sI 103 m, sI 104 ret46v.1, sI 142 sumv, e34_7], [e34_0 c0 c1 c2 c3 c4, e34_4 l410012]⟩ : St)) (by kernel_rfl) (tsI 1 trivial) ?_
             refine nn ?_
             refine aw_seq ?_
             refine aw_cond (b := (decide (v58 < (c3.length : Int)))) (by kernel_rfl) (fun hb => ?_) (fun hb => ?_)
             ·have h := h.1 hb
              refine aw_skip ?_
              refine thenQ_n ?_
              refine aw_seq ?_
              refine aw_block ?_
              refine sr ?_
              obtain ⟨o1, h⟩ := h
              refine rq 4 (ob := (inIdx v58 c3.length ∧ Ts 3 True)) (st' := (⟨93, [e34_8, e34_1 b, sI 2 signs, sI 3 m, sI 9 n, sp 12 12, e34_2 c3, e34_9 c3, sI 58 v58, e34_14, e34_11 b, sI 95 signs, sI 96 i, sI 103 m, sI 104 ret46v.1, sI 142 sumv, e34_7], [e34_10 c3 v58, e34_0 c0 c1 c2 c3 c4, e34_4 l410012]⟩ : St)) (by kernel_rfl) (⟨o1, tsI 3 trivial⟩) ?_
              refine nn ?_
              refine aw_seq ?_
              refine awd_begin [] (by kernel_rfl) ?_
              obtain ⟨o1, h⟩ := h
              refine drq (by kernel_rfl) [0, 1, 2, 3, 4, 5, 6, 7, 8, 9] (ob := (Ts 8 (InR ((b.getD ((0 : Int)).toNat (0 : Int)) - c0) ∧ Ts 1 True))) (done' := [9, 8, 7, 6, 5, 4, 3, 2, 1, 0]) (st' := (⟨93, [e34_8, e34_1 b, sI 2 signs, sI 3 m, sI 9 n, sp 12 12, e34_2 c3, e34_9 c3, sI 58 v58, sB 71 (decide ((c3.getD (v58).toNat ((0 : Int), ([] : LI))).1 = ((b.getD ((0 : Int)).toNat (0 : Int)) - c0))), e34_14, e34_11 b, sI 95 signs, sI 96 i, sI 103 m, sI 104 ret46v.1, sI 142 sumv, e34_7], [e34_10 c3 v58, e34_0 c0 c1 c2 c3 c4, e34_4 l410012]⟩ : St)) (by kernel_rfl) (tsI 8 ⟨o1, tsI 1 trivial⟩) ?_
              refine awd_done (by kernel_rfl) ?_
              refine thenQ_n ?_
              refine withJoin (σ := Int × (List (LI × Int))) (fun s => (⟨93, [e34_8, e34_1 b, sI 2 signs, sI 3 m, sI 9 s.1, e34_2 c3, e34_9 c3, sI 58 v58, e34_14, e34_11 b, sI 95 signs, sI 96 i, sI 103 m, sI 104 ret46v.1, sI 142 sumv, e34_7], [e34_0 c0 c1 c2 c3 c4, (41001, [], .dict (.ar 2 (.int .i64)) (.int .i64) s.2)]⟩ : St)) (fun s => VCc99_k11 v58 X3 s.1 s.2) (fun s h => ?_) (fun rest11 => ?_)
              ·obtain ⟨n2, l410013⟩ := s
               have h : VCc99_k11 v58 X3 n2 l410013 := h
               unfold VCc99_k11 at h
               refine blockQ_n ?_
               refine thenQ_n ?_
               refine aw_region ?_
               obtain ⟨o1, h⟩ := h
               refine rq 2 (ob := (InR (v58 + (1 : Int)) ∧ Ts 1 True)) (st' := (⟨93, [e34_8, e34_1 b, sI 2 signs, sI 3 m, sI 9 n2, e34_2 c3, e34_9 c3, sI 58 (v58 + (1 : Int)), e34_14, e34_11 b, sI 95 signs, sI 96 i, sI 103 m, sI 104 ret46v.1, sI 142 sumv, e34_7], [e34_0 c0 c1 c2 c3 c4, (41001, [], .dict (.ar 2 (.int .i64)) (.int .i64) l410013)]⟩ : St)) (by kernel_rfl) (⟨o1, tsI 1 trivial⟩) ?_
               refine awl_nil ?_
               exact thenQ_n ⟨(n2, (v58 + (1 : Int)), l410013), rfl, h⟩
              ·refine aw_cond (b := (decide ((c3.getD (v58).toNat ((0 : Int), ([] : LI))).1 = ((b.getD ((0 : Int)).toNat (0 : Int)) - c0)))) (by kernel_rfl) (fun hb => ?_) (fun hb => ?_)
               ·have h := h.1 hb
                refine aw_region ?_
                refine rq 6 (ob := (Ts 6 True)) (st' := (⟨93, [e34_8, e34_1 b, sI 2 signs, sI 3 m, e34_2 c3, e34_9 c3, sI 58 v58, sI 72 n, sp 73 41000, e34_17 c3 v58, sI 76 signs, sI 77 m, e34_14, e34_11 b, sI 95 signs, sI 96 i, sI 103 m, sI 104 ret46v.1, sI 142 sumv, e34_7], [e34_0 c0 c1 c2 c3 c4, e34_4 l410012]⟩ : St)) (by kernel_rfl) (tsI 6 trivial) ?_
                refine awl_lcall (σ := Int × (List (LI × Int))) [41000, 41001] [41000] [.c (.ptr 41000 0), .c (.pS ((c3.getD (v58).toNat ((0 : Int), ([] : LI))).2)), .c (.pI signs), .c (.pI m)] [] (fun ret78v => .v (.c (.pI ret78v.1))) (fun ret78v => [hB 41000 [.pI c0, .pI c1, .pI c2, .p (.sl (.pr (.int .i64) (.sl (.int .i64)))) c3, .pS c4, .own 41001], (41001, [], .dict (.ar 2 (.int .i64)) (.int .i64) ret78v.2)]) (fun (ret78v : Int × (List (LI × Int))) => (InR (n + ret78v.1) ∧ VCc99_k11 v58 X3 (n + ret78v.1) ret78v.2)) [hB 41000 [.pI c0, .pI c1, .pI c2, .p (.sl (.pr (.int .i64) (.sl (.int .i64)))) c3, .pS c4, .own 41001], (41001, [], .dict (.ar 2 (.int .i64)) (.int .i64) l410012)] (fun ret78v => (⟨93, [sI 78 ret78v.1, e34_8, e34_1 b, sI 2 signs, sI 3 m, e34_2 c3, e34_9 c3, sI 58 v58, sI 72 n, sp 73 41000, e34_17 c3 v58, sI 76 signs, sI 77 m, e34_14, e34_11 b, sI 95 signs, sI 96 i, sI 103 m, sI 104 ret46v.1, sI 142 sumv, e34_7], [e34_0 c0 c1 c2 c3 c4, e34_13 ret78v]⟩ : St)) rfl rfl (by kernel_rfl) rfl (by kernel_rfl) Try.call99 (by kernel_rfl) (by kernel_rfl) (by kernel_rfl) (fun _ _ => rfl) (fun _ => by kernel_rfl) (hR ((c3.getD (v58).toNat ((0 : Int), ([] : LI))).2) signs m l410012 _ h) (fun ret78v h => ?_)
                refine lpr (st' := (⟨93, [e34_8, e34_1 b, sI 2 signs, sI 3 m, e34_2 c3, e34_9 c3, sI 58 v58, sI 72 n, sI 78 ret78v.1, e34_14, e34_11 b, sI 95 signs, sI 96 i, sI 103 m, sI 104 ret46v.1, sI 142 sumv, e34_7], [e34_0 c0 c1 c2 c3 c4, e34_13 ret78v]⟩ : St)) (by kernel_rfl) ?_
                obtain ⟨o1, h⟩ := h
                refine rq 2 (ob := (InR (n + ret78v.1) ∧ Ts 1 True)) (st' := (⟨93, [e34_8, e34_1 b, sI 2 signs, sI 3 m, sI 9 (n + ret78v.1), e34_2 c3, e34_9 c3, sI 58 v58, e34_14, e34_11 b, sI 95 signs, sI 96 i, sI 103 m, sI 104 ret46v.1, sI 142 sumv, e34_7], [e34_0 c0 c1 c2 c3 c4, e34_13 ret78v]⟩ : St)) (by kernel_rfl) (⟨o1, tsI 1 trivial⟩) ?_
                refine awl_nil ?_
                exact rest11 ((n + ret78v.1), ret78v.2) h
               ·have h := h.2 hb
                refine cpr (st' := (⟨93, [e34_8, e34_1 b, sI 2 signs, sI 3 m, sI 9 n, e34_2 c3, e34_9 c3, sI 58 v58, e34_14, e34_11 b, sI 95 signs, sI 96 i, sI 103 m, sI 104 ret46v.1, sI 142 sumv, e34_7], [e34_0 c0 c1 c2 c3 c4, e34_4 l410012]⟩ : St)) (by kernel_rfl) ?_
                refine aw_skip ?_
                exact rest11 (n, l410012) h
             ·have h := h.2 hb
              refine cpr (st' := (⟨93, [e34_8, e34_1 b, sI 2 signs, sI 3 m, sI 9 n, e34_14, e34_11 b, sI 95 signs, sI 96 i, sI 103 m, sI 104 ret46v.1, sI 142 sumv, e34_7], [e34_0 c0 c1 c2 c3 c4, e34_4 l410012]⟩ : St)) (by kernel_rfl) ?_
              refine aw_exit ?_
              refine thenQ_x ?_
              refine thenQ_x ?_
              refine blockQ_hit ?_
              exact rest10 (n, l410012) h
       ·have h := h.2 hb
        refine cpr (st' := (⟨63, [e34_8, e34_15 b, sI 2 signs, sI 3 i, sI 9 sumv, sI 10 m, e34_12], [e34_0 c0 c1 c2 c3 c4, e34_5 ret46v]⟩ : St)) (by kernel_rfl) ?_
        refine aw_skip ?_
        exact rest7 (sumv, ret46v.2) h
     ·have h := h.2 hb
      refine cpr (st' := (⟨63, [sI 9 sumv, e34_12], [e34_0 c0 c1 c2 c3 c4, e34_6 l41001]⟩ : St)) (by kernel_rfl) ?_
      refine aw_exit ?_
      refine thenQ_x ?_
      refine thenQ_x ?_
      refine blockQ_hit ?_
      exact rest5 (sumv, l41001) h

def VCc99_it (c0 : Int) (c1 : Int) (c2 : Int) (c3 : (List (Int × LI))) (c4 : LI) : Nat → LI → Int → Int → (List (LI × Int)) → (Int × (List (LI × Int)) → Prop) → Prop
  | 0 => fun _ _ _ _ _ => False
  | n + 1 => fun b signs i c5 K => VCc99 c0 c1 c2 c3 c4 (VCc99_it c0 c1 c2 c3 c4 n) b signs i c5 K

def VCcr99 (c0 : Int) (c1 : Int) (c2 : Int) (c3 : (List (Int × LI))) (c4 : LI) (b : LI) (signs : Int) (i : Int) (c5 : (List (LI × Int))) (K : Int × (List (LI × Int)) → Prop) : Prop := ∃ n, VCc99_it c0 c1 c2 c3 c4 n b signs i c5 K

theorem linkci99 (c0 : Int) (c1 : Int) (c2 : Int) (c3 : (List (Int × LI))) (c4 : LI) : ∀ (n : Nat) (b : LI) (signs : Int) (i : Int) (c5 : (List (LI × Int))) (K : Int × (List (LI × Int)) → Prop), VCc99_it c0 c1 c2 c3 c4 n b signs i c5 K → LCalls Try.prog 99 [41000, 41001] [41000] [hB 41000 [.pI c0, .pI c1, .pI c2, .p (.sl (.pr (.int .i64) (.sl (.int .i64)))) c3, .pS c4, .own 41001], (41001, [], .dict (.ar 2 (.int .i64)) (.int .i64) c5)] [.c (.ptr 41000 0), .c (.pS b), .c (.pI signs), .c (.pI i)] (fun av hp' => ∃ y : Int × (List (LI × Int)), av = .v (.c (.pI y.1)) ∧ hp' = [hB 41000 [.pI c0, .pI c1, .pI c2, .p (.sl (.pr (.int .i64) (.sl (.int .i64)))) c3, .pS c4, .own 41001], (41001, [], .dict (.ar 2 (.int .i64)) (.int .i64) y.2)] ∧ K y)
  | 0, _, _, _, _, _, h => False.elim h
  | n + 1, b, signs, i, c5, K, h => linkc99 c0 c1 c2 c3 c4 (VCc99_it c0 c1 c2 c3 c4 n) (linkci99 c0 c1 c2 c3 c4 n) b signs i c5 K h

theorem linkcr99 (c0 : Int) (c1 : Int) (c2 : Int) (c3 : (List (Int × LI))) (c4 : LI) (b : LI) (signs : Int) (i : Int) (c5 : (List (LI × Int))) (K : Int × (List (LI × Int)) → Prop) (h : VCcr99 c0 c1 c2 c3 c4 b signs i c5 K) : LCalls Try.prog 99 [41000, 41001] [41000] [hB 41000 [.pI c0, .pI c1, .pI c2, .p (.sl (.pr (.int .i64) (.sl (.int .i64)))) c3, .pS c4, .own 41001], (41001, [], .dict (.ar 2 (.int .i64)) (.int .i64) c5)] [.c (.ptr 41000 0), .c (.pS b), .c (.pI signs), .c (.pI i)] (fun av hp' => ∃ y : Int × (List (LI × Int)), av = .v (.c (.pI y.1)) ∧ hp' = [hB 41000 [.pI c0, .pI c1, .pI c2, .p (.sl (.pr (.int .i64) (.sl (.int .i64)))) c3, .pS c4, .own 41001], (41001, [], .dict (.ar 2 (.int .i64)) (.int .i64) y.2)] ∧ K y) := by
  obtain ⟨n, h⟩ := h
  exact linkci99 c0 c1 c2 c3 c4 n b signs i c5 K h

abbrev e34a0 (g : (Int × (Int × (Int × (List (Int × LI)))))) (w : LI) : Nat × Path × Con := hB 9 [.pI g.1, .pI g.2.1, .pI g.2.2.1, .p (.sl (.pr (.int .i64) (.sl (.int .i64)))) g.2.2.2, .pS w, .own 7]
abbrev e34a1 (g : (Int × (Int × (Int × (List (Int × LI)))))) : Nat × Path × AV := s1 56 (.p (.sl (.pr (.int .i64) (.sl (.int .i64)))) g.2.2.2)
abbrev e34a2 (g : (Int × (Int × (Int × (List (Int × LI)))))) (w : LI) : Nat × Path × Con := hB 41000 [.pI g.1, .pI g.2.1, .pI g.2.2.1, .p (.sl (.pr (.int .i64) (.sl (.int .i64)))) g.2.2.2, .pS w, .own 41001]
abbrev e34a3 (g : (Int × (Int × (Int × (List (Int × LI)))))) : Nat × Path × Con := hB 2 [.pI g.1, .pI g.2.1, .pI g.2.2.1, .p (.sl (.pr (.int .i64) (.sl (.int .i64)))) g.2.2.2]
abbrev e34a4 : Nat × Path × Con := (7, [], .dict (.ar 2 (.int .i64)) (.int .i64) ([] : List (LI × Int)))
abbrev e34a5 (w : LI) : Nat × Path × AV := sI 3 (w.length : Int)
abbrev e34a6 (g : (Int × (Int × (Int × (List (Int × LI)))))) : Nat × Path × AV := sI 1 (g.1 + g.2.2.1)
abbrev e34a7 (l7 : (List (LI × Int))) : Nat × Path × Con := (7, [], .dict (.ar 2 (.int .i64)) (.int .i64) l7)
abbrev e34a8 (g : (Int × (Int × (Int × (List (Int × LI)))))) : Nat × Path × AV := sI 57 (g.2.2.2.length : Int)
abbrev e34a9 : Nat × Path × AV := sI 2 (0 : Int)
abbrev e34a10 (g : (Int × (Int × (Int × (List (Int × LI)))))) (w : LI) : Nat × Path × AV := sI 9 ((mget ([] : List (LI × Int)) [(g.1 + g.2.2.1), (0 : Int), (w.length : Int)]).getD (0 : Int))
abbrev e34a11 (g : (Int × (Int × (Int × (List (Int × LI)))))) (v58 : Int) : Nat × Path × Con := hB 12 [.pI ((g.2.2.2.getD (v58).toNat ((0 : Int), ([] : LI))).1), .pS ((g.2.2.2.getD (v58).toNat ((0 : Int), ([] : LI))).2)]
abbrev e34a12 (ret78v : Int × (List (LI × Int))) : Nat × Path × Con := (41001, [], .dict (.ar 2 (.int .i64)) (.int .i64) ret78v.2)
-- coppicer/coppicerkeep.trees
def VC34_k1 (K : Int × Bool → Prop) (v8 : Int) : Prop :=
  K (v8, true)

def VC34_k3 (K : Int × Bool → Prop) (n2 : Int) : Prop :=
  VC34_k1 K n2

def VC34_k2 (K : Int × Bool → Prop) (n : Int) (l7 : (List (LI × Int))) : Prop :=
  (((decide ((1099511627776 : Int) < n)) = true → VC34_k3 K (1099511627777 : Int)) ∧ ((decide ((1099511627776 : Int) < n)) = false → VC34_k3 K n))

def VC34_k4 (v58 : Int) (X1 : Int × Int × (List (LI × Int)) → Prop) (n2 : Int) (l41001 : (List (LI × Int))) : Prop :=
  (InR (v58 + (1 : Int)) ∧ X1 (n2, (v58 + (1 : Int)), l41001))

def VC34_l1 (g : (Int × (Int × (Int × (List (Int × LI)))))) (w : LI) (K : Int × Bool → Prop) (n : Int) (v58 : Int) (l7 : (List (LI × Int))) (X1 : Int × Int × (List (LI × Int)) → Prop) : Prop :=
  (((decide (v58 < (g.2.2.2.length : Int))) = true → (inIdx v58 g.2.2.2.length ∧ (InR ((g.1 + g.2.2.1) - g.1) ∧ (((decide ((g.2.2.2.getD (v58).toNat ((0 : Int), ([] : LI))).1 = ((g.1 + g.2.2.1) - g.1))) = true → VCcr99 g.1 g.2.1 g.2.2.1 g.2.2.2 w ((g.2.2.2.getD (v58).toNat ((0 : Int), ([] : LI))).2) (0 : Int) (w.length : Int) l7 (fun (ret78v : Int × (List (LI × Int))) => (InR (n + ret78v.1) ∧ VC34_k4 v58 X1 (n + ret78v.1) ret78v.2))) ∧ ((decide ((g.2.2.2.getD (v58).toNat ((0 : Int), ([] : LI))).1 = ((g.1 + g.2.2.1) - g.1))) = false → VC34_k4 v58 X1 n l7))))) ∧ ((decide (v58 < (g.2.2.2.length : Int))) = false → VC34_k2 K n l7))

def VC34 (g : (Int × (Int × (Int × (List (Int × LI)))))) (w : LI) (K : Int × Bool → Prop) : Prop :=
  VC21 g w (fun (ret8v : Bool) => gcall (α := Bool) (!(!ret8v)) (VC28 g) false (fun (ret12v : Bool) => ((((!ret8v) || (!ret12v)) = true → K ((0 : Int), false)) ∧ (((!ret8v) || (!ret12v)) = false → (InR (g.1 + g.2.2.1) ∧ (((decide ((g.1 + g.2.2.1) < g.1)) = true → (InR ((0 : Int) + (1 : Int)) ∧ ((decide ((w.length : Int) = ((0 : Int) + (1 : Int)))) = true → inIdx (0 : Int) w.length) ∧ ((((decide ((w.length : Int) = ((0 : Int) + (1 : Int)))) && (decide ((w.getD ((0 : Int)).toNat (0 : Int)) = (g.1 + g.2.2.1)))) = true → VC34_k1 K (1 : Int)) ∧ (((decide ((w.length : Int) = ((0 : Int) + (1 : Int)))) && (decide ((w.getD ((0 : Int)).toNat (0 : Int)) = (g.1 + g.2.2.1)))) = false → VC34_k1 K (0 : Int))))) ∧ ((decide ((g.1 + g.2.2.1) < g.1)) = false → (((decide ((0 : Int) = (w.length : Int))) = true → VC34_k1 K (0 : Int)) ∧ ((decide ((0 : Int) = (w.length : Int))) = false → (((mget ([] : List (LI × Int)) [(g.1 + g.2.2.1), (0 : Int), (w.length : Int)]).isSome = true → VC34_k1 K ((mget ([] : List (LI × Int)) [(g.1 + g.2.2.1), (0 : Int), (w.length : Int)]).getD (0 : Int))) ∧ ((mget ([] : List (LI × Int)) [(g.1 + g.2.2.1), (0 : Int), (w.length : Int)]).isSome = false → Loop (σ := Int × Int × (List (LI × Int))) (fun s X => VC34_l1 g w K s.1 s.2.1 s.2.2 X) (((mget ([] : List (LI × Int)) [(g.1 + g.2.2.1), (0 : Int), (w.length : Int)]).getD (0 : Int)), (0 : Int), ([] : List (LI × Int))))))))))))))

set_option maxHeartbeats 4000000 in
theorem link34 (g : (Int × (Int × (Int × (List (Int × LI)))))) (w : LI) (K : Int × Bool → Prop) (h : VC34 g w K) : ACalls Try.prog 34 [toV1 (.pr (.int .i64) (.pr (.int .i64) (.pr (.int .i64) (.sl (.pr (.int .i64) (.sl (.int .i64))))))) g, toV1 (.sl (.int .i64)) w] (fun res => ∃ y, res = (fun y => [toV1 (.int .i64) y.1, toV1 .bool y.2]) y ∧ K y) := by
 refine acalls_of_aw [(.int .i64), .bool] [.t 4, .t 5] Try.func34 rfl rfl rfl ?_
 unfold VC34 at h
 refine sr ?_
 refine rq 3 (ob := (Ts 3 True)) (st' := (⟨26, [s1 1 (.pS w), sp 2 2], [e34a3 g]⟩ : St)) (by kernel_rfl) (tsI 3 trivial) ?_
 refine nn ?_
 refine aw_seq ?_
 refine sr ?_
 refine rq 2 (ob := (Ts 2 True)) (st' := (⟨26, [s1 1 (.pS w), sp 2 2, sA 6 [.pI g.1, .pI g.2.1, .pI g.2.2.1, .p (.sl (.pr (.int .i64) (.sl (.int .i64)))) g.2.2.2], s1 7 (.pS w)], [e34a3 g]⟩ : St)) (by kernel_rfl) (tsI 2 trivial) ?_
 refine lcq (d := 8) [.d (.pr (.int .i64) (.pr (.int .i64) (.pr (.int .i64) (.sl (.pr (.int .i64) (.sl (.int .i64))))))), .d (.sl (.int .i64))] (fun ret8v => (⟨26, [s1 1 (.pS w), sp 2 2, sB 8 ret8v], [e34a3 g]⟩ : St)) (by kernel_rfl) Try.call21 (fun _ => by kernel_rfl) (link21 g w _ h) (fun ret8v h => ?_)
 refine rq 3 (ob := (Ts 2 (((!ret8v) = false → True) ∧ True))) (st' := (⟨26, [s1 1 (.pS w), sp 2 2, sB 10 (!ret8v), (11, [(10, false)], .v (.agg [.pI g.1, .pI g.2.1, .pI g.2.2.1, .p (.sl (.pr (.int .i64) (.sl (.int .i64)))) g.2.2.2]))], [e34a3 g]⟩ : St)) (by kernel_rfl) (tsI 2 ⟨(fun _ => trivial), trivial⟩) ?_
 refine awl_callk (p := [(10, false)]) (l := [toV1 (.pr (.int .i64) (.pr (.int .i64) (.pr (.int .i64) (.sl (.pr (.int .i64) (.sl (.int .i64))))))) g]) (cl := []) false [.d (.pr (.int .i64) (.pr (.int .i64) (.pr (.int .i64) (.sl (.pr (.int .i64) (.sl (.int .i64)))))))] [1, 2, 10, 12] [2] (fun (ret12v : Bool) => ((((!ret8v) || (!ret12v)) = true → K ((0 : Int), false)) ∧ (((!ret8v) || (!ret12v)) = false → (InR (g.1 + g.2.2.1) ∧ (((decide ((g.1 + g.2.2.1) < g.1)) = true → (InR ((0 : Int) + (1 : Int)) ∧ ((decide ((w.length : Int) = ((0 : Int) + (1 : Int)))) = true → inIdx (0 : Int) w.length) ∧ ((((decide ((w.length : Int) = ((0 : Int) + (1 : Int)))) && (decide ((w.getD ((0 : Int)).toNat (0 : Int)) = (g.1 + g.2.2.1)))) = true → VC34_k1 K (1 : Int)) ∧ (((decide ((w.length : Int) = ((0 : Int) + (1 : Int)))) && (decide ((w.getD ((0 : Int)).toNat (0 : Int)) = (g.1 + g.2.2.1)))) = false → VC34_k1 K (0 : Int))))) ∧ ((decide ((g.1 + g.2.2.1) < g.1)) = false → (((decide ((0 : Int) = (w.length : Int))) = true → VC34_k1 K (0 : Int)) ∧ ((decide ((0 : Int) = (w.length : Int))) = false → (((mget ([] : List (LI × Int)) [(g.1 + g.2.2.1), (0 : Int), (w.length : Int)]).isSome = true → VC34_k1 K ((mget ([] : List (LI × Int)) [(g.1 + g.2.2.1), (0 : Int), (w.length : Int)]).getD (0 : Int))) ∧ ((mget ([] : List (LI × Int)) [(g.1 + g.2.2.1), (0 : Int), (w.length : Int)]).isSome = false → Loop (σ := Int × Int × (List (LI × Int))) (fun s X => VC34_l1 g w K s.1 s.2.1 s.2.2 X) (((mget ([] : List (LI × Int)) [(g.1 + g.2.2.1), (0 : Int), (w.length : Int)]).getD (0 : Int)), (0 : Int), ([] : List (LI × Int))))))))))))) (fun ret12v => [toV1 .bool ret12v]) (fun ret12v => (⟨26, [s1 1 (.pS w), sp 2 2, sB 10 (!ret8v), (12, [(10, false)], .v (.c (.pB ret12v)))], [e34a3 g]⟩ : St)) (by kernel_rfl) rfl (by kernel_rfl) rfl (by kernel_rfl) Try.call28 (by kernel_rfl) (fun ret12v => by kernel_rfl) (fun e => by cases e) (fun hg => link28 g _ (by have := gcall_T h (show (!(!ret8v)) = true from hg); exact this)) (fun hg => ⟨false, by have := gcall_F h (show (!(!ret8v)) = false from hg); exact this⟩) (fun ret12v h => ?_)
 refine rq 2 (ob := (((!ret8v) = false → True) ∧ Ts 1 True)) (st' := (⟨26, [s1 1 (.pS w), sp 2 2, sB 14 ((!ret8v) || (!ret12v))], [e34a3 g]⟩ : St)) (by kernel_rfl) (⟨(fun _ => trivial), tsI 1 trivial⟩) ?_
 refine nn ?_
 refine aw_cond (b := ((!ret8v) || (!ret12v))) (by kernel_rfl) (fun hb => ?_) (fun hb => ?_)
 ·have h := h.1 hb
  refine sr ?_
  refine rq 2 (ob := (Ts 2 True)) (st' := (⟨26, [sI 4 (0 : Int), sB 5 false], []⟩ : St)) (by kernel_rfl) (tsI 2 trivial) ?_
  refine nn ?_
  refine aw_ret ?_
  refine thenQ_r ?_
  exact retQ_r (ob := Ts 2 True) _ (by kernel_rfl) (tsI 2 trivial) h
 ·have h := h.2 hb
  refine aw_skip ?_
  refine thenQ_n ?_
  refine aw_seq ?_
  refine aw_conv [.ren 2 30000] (st' := (⟨26, [s1 1 (.pS w), sp 2 30000, sB 14 ((!ret8v) || (!ret12v))], [hB 30000 [.pI g.1, .pI g.2.1, .pI g.2.2.1, .p (.sl (.pr (.int .i64) (.sl (.int .i64)))) g.2.2.2]]⟩ : St)) (by kernel_rfl) ?_
  refine awd_begin [7, 9] (by kernel_rfl) ?_
  obtain ⟨o1, h⟩ := h
  refine drq (by kernel_rfl) [0, 1, 3, 4, 5, 6, 7, 8, 9] (ob := (Ts 6 (InR (g.1 + g.2.2.1) ∧ Ts 2 True))) (done' := [9, 8, 7, 6, 5, 4, 3, 1, 0]) (st' := (⟨26, [sA 15 [.pI g.1, .pI g.2.1, .pI g.2.2.1, .p (.sl (.pr (.int .i64) (.sl (.int .i64)))) g.2.2.2], s1 16 (.pS w), sI 22 (g.1 + g.2.2.1), sI 24 (w.length : Int)], []⟩ : St)) (by kernel_rfl) (tsI 6 ⟨o1, tsI 2 trivial⟩) ?_
  refine awd_one (i := 2) (by kernel_rfl) ?_
  refine adop_inlr [.t 4] [.agg [.pI g.1, .pI g.2.1, .pI g.2.2.1, .p (.sl (.pr (.int .i64) (.sl (.int .i64)))) g.2.2.2], .c (.pS w)] [] rfl rfl rfl (by kernel_rfl) rfl (by kernel_rfl) Try.call68 (by kernel_rfl) (by kernel_rfl) Try.func68 rfl rfl (by kernel_rfl) ?_
  refine aw_conv [] (st' := (⟨10, [sA 0 [.pI g.1, .pI g.2.1, .pI g.2.2.1, .p (.sl (.pr (.int .i64) (.sl (.int .i64)))) g.2.2.2], s1 1 (.pS w), sA 25 [.pI g.1, .pI g.2.1, .pI g.2.2.1, .p (.sl (.pr (.int .i64) (.sl (.int .i64)))) g.2.2.2], s1 26 (.pS w), sI 32 (g.1 + g.2.2.1), sI 34 (w.length : Int)], []⟩ : St)) (by kernel_rfl) ?_
  refine sr ?_
  refine rq 2 (ob := (Ts 2 True)) (st' := (⟨10, [s1 1 (.pS w), sp 2 2, sI 32 (g.1 + g.2.2.1), sI 34 (w.length : Int)], [e34a3 g]⟩ : St)) (by kernel_rfl) (tsI 2 trivial) ?_
  refine nsr ?_
  refine rq 6 (ob := (Ts 6 True)) (st' := (⟨10, [sp 4 9, sI 32 (g.1 + g.2.2.1), sI 34 (w.length : Int)], [e34a4, e34a0 g w]⟩ : St)) (by kernel_rfl) (tsI 6 trivial) ?_
  refine nn ?_
  refine aw_ret ?_
  refine inlR_r (ob := True) (.v (.c (.ptr 9 0))) (by kernel_rfl) trivial rfl ?_
  refine dpr (st' := (⟨26, [sp 17 9, sI 22 (g.1 + g.2.2.1), sI 24 (w.length : Int)], [e34a4, e34a0 g w]⟩ : St)) (by kernel_rfl) ?_
  refine awd_one (i := 10) (by kernel_rfl) ?_
  refine adop_inlr [.t 8] [.c (.ptr 9 0), .c (.pI (g.1 + g.2.2.1)), .c (.pI (0 : Int)), .c (.pI (w.length : Int))] [] rfl rfl rfl (by kernel_rfl) rfl (by kernel_rfl) Try.call69 (by kernel_rfl) (by kernel_rfl) Try.func69 rfl rfl (by kernel_rfl) ?_
  refine aw_conv [] (st' := (⟨93, [sp 0 9, e34a6 g, e34a9, e34a5 w, sp 110 9, sI 115 (g.1 + g.2.2.1), sI 117 (w.length : Int)], [e34a4, e34a0 g w]⟩ : St)) (by kernel_rfl) ?_
  refine withJoinR (σ := Int) (fun s => (⟨93, [sI 8 s], []⟩ : St)) (fun s => VC34_k1 K s) (fun v8 h => ?_) (fun rest1 => ?_)
  ·have h : VC34_k1 K v8 := h
   unfold VC34_k1 at h
   refine inlR_n (ob := True) (.v (.c (.pI v8))) (by kernel_rfl) trivial rfl ?_
   refine dpr (st' := (⟨26, [sI 25 v8], []⟩ : St)) (by kernel_rfl) ?_
   refine drq (by kernel_rfl) [11, 12] (ob := (Ts 2 True)) (done' := [12, 11, 10, 2, 9, 8, 7, 6, 5, 4, 3, 1, 0]) (st' := (⟨26, [sI 4 v8, sB 5 true], []⟩ : St)) (by kernel_rfl) (tsI 2 trivial) ?_
   refine awd_done (by kernel_rfl) ?_
   refine thenQ_n ?_
   refine aw_ret ?_
   exact retQ_r (ob := Ts 2 True) _ (by kernel_rfl) (tsI 2 trivial) h
  ·refine sr ?_
   refine rq 1 (ob := (Ts 1 True)) (st' := (⟨93, [sp 0 9, e34a6 g, e34a9, e34a5 w], [e34a4, e34a0 g w]⟩ : St)) (by kernel_rfl) (tsI 1 trivial) ?_
   refine nn ?_
   refine aw_seq ?_
   refine sr ?_
   refine rq 7 (ob := (Ts 7 True)) (st' := (⟨93, [sp 0 9, e34a6 g, e34a9, e34a5 w, sB 19 (decide ((g.1 + g.2.2.1) < g.1))], [e34a4, e34a0 g w]⟩ : St)) (by kernel_rfl) (tsI 7 trivial) ?_
   refine nn ?_
   refine aw_cond (b := (decide ((g.1 + g.2.2.1) < g.1))) (by kernel_rfl) (fun hb => ?_) (fun hb => ?_)
   ·have h := h.1 hb
    refine aw_seq ?_
    refine sr ?_
    obtain ⟨o1, o2, h⟩ := h
    refine rq 15 (ob := (Ts 2 (InR ((0 : Int) + (1 : Int)) ∧ Ts 2 (Ti 5 ((decide ((w.length : Int) = ((0 : Int) + (1 : Int)))) = true → True) (((decide ((w.length : Int) = ((0 : Int) + (1 : Int)))) = true → inIdx (0 : Int) w.length) ∧ Ti 3 ((decide ((w.length : Int) = ((0 : Int) + (1 : Int)))) = true → True) (Ts 1 True)))))) (st' := (⟨93, [sB 34 ((decide ((w.length : Int) = ((0 : Int) + (1 : Int)))) && (decide ((w.getD ((0 : Int)).toNat (0 : Int)) = (g.1 + g.2.2.1))))], []⟩ : St)) (by kernel_rfl) (tsI 2 (⟨o1, tsI 2 (tiI 5 (fun _ => trivial) ⟨o2, tiI 3 (fun _ => trivial) (tsI 1 trivial)⟩)⟩)) ?_
    refine nn ?_
    refine aw_cond (b := ((decide ((w.length : Int) = ((0 : Int) + (1 : Int)))) && (decide ((w.getD ((0 : Int)).toNat (0 : Int)) = (g.1 + g.2.2.1))))) (by kernel_rfl) (fun hb => ?_) (fun hb => ?_)
    ·have h := h.1 hb
     refine sr ?_
     refine rq 1 (ob := (Ts 1 True)) (st' := (⟨93, [sI 8 (1 : Int)], []⟩ : St)) (by kernel_rfl) (tsI 1 trivial) ?_
     refine nn ?_
     refine aw_ret ?_
     refine thenQ_r ?_
     refine thenQ_r ?_
     exact rest1 (1 : Int) h
    ·have h := h.2 hb
     refine aw_skip ?_
     refine thenQ_n ?_
     refine sr ?_
     refine rq 1 (ob := (Ts 1 True)) (st' := (⟨93, [sI 8 (0 : Int)], []⟩ : St)) (by kernel_rfl) (tsI 1 trivial) ?_
     refine nn ?_
     refine aw_ret ?_
     refine thenQ_r ?_
     exact rest1 (0 : Int) h
   ·have h := h.2 hb
    refine aw_skip ?_
    refine thenQ_n ?_
    refine aw_seq ?_
    refine sr ?_
    refine rq 3 (ob := (Ts 3 True)) (st' := (⟨93, [sp 0 9, e34a6 g, e34a9, e34a5 w, sB 37 (decide ((0 : Int) = (w.length : Int)))], [e34a4, e34a0 g w]⟩ : St)) (by kernel_rfl) (tsI 3 trivial) ?_
    refine nn ?_
    refine aw_cond (b := (decide ((0 : Int) = (w.length : Int)))) (by kernel_rfl) (fun hb => ?_) (fun hb => ?_)
    ·have h := h.1 hb
     refine sr ?_
     refine rq 1 (ob := (Ts 1 True)) (st' := (⟨93, [sI 8 (0 : Int)], []⟩ : St)) (by kernel_rfl) (tsI 1 trivial) ?_
     refine nn ?_
     refine aw_ret ?_
     refine thenQ_r ?_
     exact rest1 (0 : Int) h
    ·have h := h.2 hb
     refine aw_skip ?_
     refine thenQ_n ?_
     refine sr ?_
     refine rq 14 (ob := (Ts 14 True)) (st' := (⟨93, [sp 0 9, e34a6 g, e34a9, e34a5 w, e34a10 g w, sB 10 ((mget ([] : List (LI × Int)) [(g.1 + g.2.2.1), (0 : Int), (w.length : Int)]).isSome)], [e34a4, e34a0 g w]⟩ : St)) (by kernel_rfl) (tsI 14 trivial) ?_
     refine nn ?_
     refine aw_seq ?_
     refine sr ?_
     refine rq 1 (ob := (Ts 1 True)) (st' := (⟨93, [sp 0 9, e34a6 g, e34a9, e34a5 w, e34a10 g w, sB 50 ((mget ([] : List (LI × Int)) [(g.1 + g.2.2.1), (0 : Int), (w.length : Int)]).isSome)], [e34a4, e34a0 g w]⟩ : St)) (by kernel_rfl) (tsI 1 trivial) ?_
     refine nn ?_
     refine aw_cond (b := (mget ([] : List (LI × Int)) [(g.1 + g.2.2.1), (0 : Int), (w.length : Int)]).isSome) (by kernel_rfl) (fun hb => ?_) (fun hb => ?_)
     ·have h := h.1 hb
      refine sr ?_
      refine rq 2 (ob := (Ts 2 True)) (st' := (⟨93, [sI 8 ((mget ([] : List (LI × Int)) [(g.1 + g.2.2.1), (0 : Int), (w.length : Int)]).getD (0 : Int))], []⟩ : St)) (by kernel_rfl) (tsI 2 trivial) ?_
      refine nn ?_
      refine aw_ret ?_
      refine thenQ_r ?_
      exact rest1 ((mget ([] : List (LI × Int)) [(g.1 + g.2.2.1), (0 : Int), (w.length : Int)]).getD (0 : Int)) h
     ·have h := h.2 hb
      refine aw_skip ?_
      refine thenQ_n ?_
      refine aw_seq ?_
      refine sr ?_
      refine rq 7 (ob := (Ts 7 True)) (st' := (⟨93, [sp 0 9, e34a6 g, e34a9, e34a5 w, e34a10 g w, e34a1 g, e34a8 g, sI 58 (0 : Int)], [e34a4, e34a0 g w]⟩ : St)) (by kernel_rfl) (tsI 7 trivial) ?_
      refine nn ?_
      refine withJoin (σ := Int × (List (LI × Int))) (fun s => (⟨93, [sp 0 9, e34a6 g, e34a9, e34a5 w, sI 9 s.1], [(7, [], .dict (.ar 2 (.int .i64)) (.int .i64) s.2), e34a0 g w]⟩ : St)) (fun s => VC34_k2 K s.1 s.2) (fun s h => ?_) (fun rest3 => ?_)
      ·obtain ⟨n, l7⟩ := s
       have h : VC34_k2 K n l7 := h
       unfold VC34_k2 at h
       refine thenQ_n ?_
       refine aw_seq ?_
       refine sr ?_
       refine rq 2 (ob := (Ts 2 True)) (st' := (⟨93, [sp 0 9, e34a6 g, e34a9, e34a5 w, sI 9 n, sB 82 (decide ((1099511627776 : Int) < n))], [e34a7 l7, e34a0 g w]⟩ : St)) (by kernel_rfl) (tsI 2 trivial) ?_
       refine nn ?_
       refine withJoin (σ := Int) (fun s => (⟨93, [sp 0 9, e34a6 g, e34a9, e34a5 w, sI 9 s], [e34a7 l7, e34a0 g w]⟩ : St)) (fun s => VC34_k3 K s) (fun n2 h => ?_) (fun rest2 => ?_)
       ·have h : VC34_k3 K n2 := h
        unfold VC34_k3 at h
        refine thenQ_n ?_
        refine sr ?_
        refine rq 10 (ob := (Ts 10 True)) (st' := (⟨93, [sI 9 n2], []⟩ : St)) (by kernel_rfl) (tsI 10 trivial) ?_
        refine nsr ?_
        refine rq 2 (ob := (Ts 2 True)) (st' := (⟨93, [sI 8 n2], []⟩ : St)) (by kernel_rfl) (tsI 2 trivial) ?_
        refine nn ?_
        refine aw_ret ?_
        exact rest1 n2 h
       ·refine aw_cond (b := (decide ((1099511627776 : Int) < n))) (by kernel_rfl) (fun hb => ?_) (fun hb => ?_)
        ·have h := h.1 hb
         refine aw_region ?_
         refine rq 1 (ob := (Ts 1 True)) (st' := (⟨93, [sp 0 9, e34a6 g, e34a9, e34a5 w, sI 9 (1099511627777 : Int)], [e34a7 l7, e34a0 g w]⟩ : St)) (by kernel_rfl) (tsI 1 trivial) ?_
         refine awl_nil ?_
         exact rest2 (1099511627777 : Int) h
        ·have h := h.2 hb
         refine cpr (st' := (⟨93, [sp 0 9, e34a6 g, e34a9, e34a5 w, sI 9 n], [e34a7 l7, e34a0 g w]⟩ : St)) (by kernel_rfl) ?_
         refine aw_skip ?_
         exact rest2 n h
      ·refine aw_block ?_
       refine aw_loop (σ := Int × Int × (List (LI × Int))) (fun s => (⟨93, [sp 0 9, e34a6 g, e34a9, e34a5 w, sI 9 s.1, e34a1 g, e34a8 g, sI 58 s.2.1], [(7, [], .dict (.ar 2 (.int .i64)) (.int .i64) s.2.2), e34a0 g w]⟩ : St)) (fun s X => VC34_l1 g w K s.1 s.2.1 s.2.2 X) (s0 := (((mget ([] : List (LI × Int)) [(g.1 + g.2.2.1), (0 : Int), (w.length : Int)]).getD (0 : Int)), (0 : Int), ([] : List (LI × Int)))) (fun s X1 h => ?_) h
       obtain ⟨n, v58, l7⟩ := s
       have h : VC34_l1 g w K n v58 l7 X1 := h
       unfold VC34_l1 at h
       refine sr ?_
       refine rq 1 (ob := (Ts 1 True)) (st' := (⟨93, [sp 0 9, e34a6 g, e34a9, e34a5 w, sI 9 n, e34a1 g, e34a8 g, sI 58 v58, sB 59 (decide (v58 < (g.2.2.2.length : Int)))], [e34a7 l7, e34a0 g w]⟩ : St)) (by kernel_rfl) (tsI 1 trivial) ?_
       refine nn ?_
       refine aw_seq ?_
       refine aw_cond (b := (decide (v58 < (g.2.2.2.length : Int)))) (by kernel_rfl) (fun hb => ?_) (fun hb => ?_)
       ·have h := h.1 hb
        refine aw_skip ?_
        refine thenQ_n ?_
        refine aw_seq ?_
        refine aw_block ?_
        refine sr ?_
        obtain ⟨o1, h⟩ := h
        refine rq 4 (ob := (inIdx v58 g.2.2.2.length ∧ Ts 3 True)) (st' := (⟨93, [sp 0 9, e34a6 g, e34a9, e34a5 w, sI 9 n, sp 12 12, e34a1 g, e34a8 g, sI 58 v58], [e34a7 l7, e34a0 g w, e34a11 g v58]⟩ : St)) (by kernel_rfl) (⟨o1, tsI 3 trivial⟩) ?_
        refine nn ?_
        refine aw_seq ?_
        refine awd_begin [] (by kernel_rfl) ?_
        obtain ⟨o1, h⟩ := h
        refine drq (by kernel_rfl) [0, 1, 2, 3, 4, 5, 6, 7, 8, 9] (ob := (Ts 8 (InR ((g.1 + g.2.2.1) - g.1) ∧ Ts 1 True))) (done' := [9, 8, 7, 6, 5, 4, 3, 2, 1, 0]) (st' := (⟨93, [sp 0 9, e34a6 g, e34a9, e34a5 w, sI 9 n, sp 12 12, e34a1 g, e34a8 g, sI 58 v58, sB 71 (decide ((g.2.2.2.getD (v58).toNat ((0 : Int), ([] : LI))).1 = ((g.1 + g.2.2.1) - g.1)))], [e34a7 l7, e34a0 g w, e34a11 g v58]⟩ : St)) (by kernel_rfl) (tsI 8 ⟨o1, tsI 1 trivial⟩) ?_
        refine awd_done (by kernel_rfl) ?_
        refine thenQ_n ?_
        refine withJoin (σ := Int × (List (LI × Int))) (fun s => (⟨93, [sp 0 41000, e34a6 g, e34a9, e34a5 w, sI 9 s.1, e34a1 g, e34a8 g, sI 58 v58], [e34a2 g w, (41001, [], .dict (.ar 2 (.int .i64)) (.int .i64) s.2)]⟩ : St)) (fun s => VC34_k4 v58 X1 s.1 s.2) (fun s h => ?_) (fun rest4 => ?_)
        ·obtain ⟨n2, l41001⟩ := s
         have h : VC34_k4 v58 X1 n2 l41001 := h
         unfold VC34_k4 at h
         refine blockQ_n ?_
         refine thenQ_n ?_
         refine aw_region ?_
         obtain ⟨o1, h⟩ := h
         refine rq 2 (ob := (InR (v58 + (1 : Int)) ∧ Ts 1 True)) (st' := (⟨93, [sp 0 41000, e34a6 g, e34a9, e34a5 w, sI 9 n2, e34a1 g, e34a8 g, sI 58 (v58 + (1 : Int))], [e34a2 g w, (41001, [], .dict (.ar 2 (.int .i64)) (.int .i64) l41001)]⟩ : St)) (by kernel_rfl) (⟨o1, tsI 1 trivial⟩) ?_
         refine awl_conv [.ren 41000 61000, .ren 41001 61001, .ren 61000 9, .ren 61001 7, .prune [0, 1, 2, 3, 9, 56, 57, 58] [7, 9]] (st' := (⟨93, [sp 0 9, e34a6 g, e34a9, e34a5 w, sI 9 n2, e34a1 g, e34a8 g, sI 58 (v58 + (1 : Int))], [(7, [], .dict (.ar 2 (.int .i64)) (.int .i64) l41001), e34a0 g w]⟩ : St)) (by kernel_rfl) ?_
         refine awl_nil ?_
         exact thenQ_n ⟨(n2, (v58 + (1 : Int)), l41001), rfl, h⟩
        ·refine aw_cond (b := (decide ((g.2.2.2.getD (v58).toNat ((0 : Int), ([] : LI))).1 = ((g.1 + g.2.2.1) - g.1)))) (by kernel_rfl) (fun hb => ?_) (fun hb => ?_)
         ·have h := h.1 hb
          refine aw_region ?_
          refine rq 6 (ob := (Ts 6 True)) (st' := (⟨93, [sp 0 9, e34a6 g, e34a9, e34a5 w, e34a1 g, e34a8 g, sI 58 v58, sI 72 n, sp 73 9, s1 75 (.pS ((g.2.2.2.getD (v58).toNat ((0 : Int), ([] : LI))).2)), sI 76 (0 : Int), sI 77 (w.length : Int)], [e34a7 l7, e34a0 g w]⟩ : St)) (by kernel_rfl) (tsI 6 trivial) ?_
          refine awl_conv [.ren 9 41000, .ren 7 41001] (st' := (⟨93, [sp 0 41000, e34a6 g, e34a9, e34a5 w, e34a1 g, e34a8 g, sI 58 v58, sI 72 n, sp 73 41000, s1 75 (.pS ((g.2.2.2.getD (v58).toNat ((0 : Int), ([] : LI))).2)), sI 76 (0 : Int), sI 77 (w.length : Int)], [(41001, [], .dict (.ar 2 (.int .i64)) (.int .i64) l7), e34a2 g w]⟩ : St)) (by kernel_rfl) ?_
          refine awl_lcall (σ := Int × (List (LI × Int))) [41000, 41001] [41000] [.c (.ptr 41000 0), .c (.pS ((g.2.2.2.getD (v58).toNat ((0 : Int), ([] : LI))).2)), .c (.pI (0 : Int)), .c (.pI (w.length : Int))] [] (fun ret78v => .v (.c (.pI ret78v.1))) (fun ret78v => [hB 41000 [.pI g.1, .pI g.2.1, .pI g.2.2.1, .p (.sl (.pr (.int .i64) (.sl (.int .i64)))) g.2.2.2, .pS w, .own 41001], (41001, [], .dict (.ar 2 (.int .i64)) (.int .i64) ret78v.2)]) (fun (ret78v : Int × (List (LI × Int))) => (InR (n + ret78v.1) ∧ VC34_k4 v58 X1 (n + ret78v.1) ret78v.2)) [hB 41000 [.pI g.1, .pI g.2.1, .pI g.2.2.1, .p (.sl (.pr (.int .i64) (.sl (.int .i64)))) g.2.2.2, .pS w, .own 41001], (41001, [], .dict (.ar 2 (.int .i64)) (.int .i64) l7)] (fun ret78v => (⟨93, [sI 78 ret78v.1, sp 0 41000, e34a6 g, e34a9, e34a5 w, e34a1 g, e34a8 g, sI 58 v58, sI 72 n, sp 73 41000, s1 75 (.pS ((g.2.2.2.getD (v58).toNat ((0 : Int), ([] : LI))).2)), sI 76 (0 : Int), sI 77 (w.length : Int)], [e34a2 g w, e34a12 ret78v]⟩ : St)) rfl rfl (by kernel_rfl) rfl (by kernel_rfl) Try.call99 (by kernel_rfl) (by kernel_rfl) (by kernel_rfl) (fun _ _ => rfl) (fun _ => by kernel_rfl) (linkcr99 g.1 g.2.1 g.2.2.1 g.2.2.2 w ((g.2.2.2.getD (v58).toNat ((0 : Int), ([] : LI))).2) (0 : Int) (w.length : Int) l7 _ h) (fun ret78v h => ?_)
          refine lpr (st' := (⟨93, [sp 0 41000, e34a6 g, e34a9, e34a5 w, e34a1 g, e34a8 g, sI 58 v58, sI 72 n, sI 78 ret78v.1], [e34a2 g w, e34a12 ret78v]⟩ : St)) (by kernel_rfl) ?_
          obtain ⟨o1, h⟩ := h
          refine rq 2 (ob := (InR (n + ret78v.1) ∧ Ts 1 True)) (st' := (⟨93, [sp 0 41000, e34a6 g, e34a9, e34a5 w, sI 9 (n + ret78v.1), e34a1 g, e34a8 g, sI 58 v58], [e34a2 g w, e34a12 ret78v]⟩ : St)) (by kernel_rfl) (⟨o1, tsI 1 trivial⟩) ?_
          refine awl_nil ?_
          exact rest4 ((n + ret78v.1), ret78v.2) h
         ·have h := h.2 hb
          refine aw_conv [.prune [0, 1, 2, 3, 9, 56, 57, 58] [7, 9], .ren 9 20009, .ren 7 20007, .ren 20009 41000, .ren 20007 41001, .prune [0, 1, 2, 3, 9, 56, 57, 58] [41000, 41001]] (st' := (⟨93, [sp 0 41000, e34a6 g, e34a9, e34a5 w, sI 9 n, e34a1 g, e34a8 g, sI 58 v58], [e34a2 g w, (41001, [], .dict (.ar 2 (.int .i64)) (.int .i64) l7)]⟩ : St)) (by kernel_rfl) ?_
          refine aw_skip ?_
          exact rest4 (n, l7) h
       ·have h := h.2 hb
        refine cpr (st' := (⟨93, [sp 0 9, e34a6 g, e34a9, e34a5 w, sI 9 n], [e34a7 l7, e34a0 g w]⟩ : St)) (by kernel_rfl) ?_
        refine aw_exit ?_
        refine thenQ_x ?_
        refine thenQ_x ?_
        refine blockQ_hit ?_
        exact rest3 (n, l7) h

-- coppicer/coppicerref.Ints
def VC22_k1 (K : Bool → Prop) : Prop :=
  K true

def VC22_l1 (a : LI) (b : LI) (K : Bool → Prop) (i : Int) (X1 : Int → Prop) : Prop :=
  (((decide (i < (a.length : Int))) = true → (inIdx i a.length ∧ inIdx i b.length ∧ (((!decide ((a.getD (i).toNat (0 : Int)) = (b.getD (i).toNat (0 : Int)))) = true → K false) ∧ ((!decide ((a.getD (i).toNat (0 : Int)) = (b.getD (i).toNat (0 : Int)))) = false → (InR (i + (1 : Int)) ∧ X1 (i + (1 : Int))))))) ∧ ((decide (i < (a.length : Int))) = false → VC22_k1 K))

def VC22 (a : LI) (b : LI) (K : Bool → Prop) : Prop :=
  (((!decide ((a.length : Int) = (b.length : Int))) = true → K false) ∧ ((!decide ((a.length : Int) = (b.length : Int))) = false → Loop (σ := Int) (fun s X => VC22_l1 a b K s X) (0 : Int)))

set_option maxHeartbeats 4000000 in
theorem link22 (a : LI) (b : LI) (K : Bool → Prop) (h : VC22 a b K) : ACalls Try.prog 22 [toV1 (.sl (.int .i64)) a, toV1 (.sl (.int .i64)) b] (fun res => ∃ y, res = (fun y => [toV1 .bool y]) y ∧ K y) := by
 refine acalls_of_aw [.bool] [.t 4] Try.func22 rfl rfl rfl ?_
 unfold VC22 at h
 refine sr ?_
 refine rq 1 (ob := (Ts 1 True)) (st' := (⟨26, [s1 0 (.pS a), s1 1 (.pS b)], []⟩ : St)) (by kernel_rfl) (tsI 1 trivial) ?_
 refine nn ?_
 refine aw_seq ?_
 refine sr ?_
 refine rq 5 (ob := (Ts 5 True)) (st' := (⟨26, [s1 0 (.pS a), s1 1 (.pS b), sB 10 (!decide ((a.length : Int) = (b.length : Int)))], []⟩ : St)) (by kernel_rfl) (tsI 5 trivial) ?_
 refine nn ?_
 refine aw_cond (b := (!decide ((a.length : Int) = (b.length : Int)))) (by kernel_rfl) (fun hb => ?_) (fun hb => ?_)
 ·have h := h.1 hb
  refine sr ?_
  refine rq 1 (ob := (Ts 1 True)) (st' := (⟨26, [sB 4 false], []⟩ : St)) (by kernel_rfl) (tsI 1 trivial) ?_
  refine nn ?_
  refine aw_ret ?_
  refine thenQ_r ?_
  exact retQ_r (ob := Ts 1 True) _ (by kernel_rfl) (tsI 1 trivial) h
 ·have h := h.2 hb
  refine aw_skip ?_
  refine thenQ_n ?_
  refine aw_seq ?_
  refine sr ?_
  refine rq 1 (ob := (Ts 1 True)) (st' := (⟨26, [s1 0 (.pS a), s1 1 (.pS b), sI 5 (0 : Int)], []⟩ : St)) (by kernel_rfl) (tsI 1 trivial) ?_
  refine nn ?_
  refine withJoin (σ := Unit) (fun s => (⟨26, [], []⟩ : St)) (fun s => VC22_k1 K) (fun s h => ?_) (fun rest1 => ?_)
  ·have h : VC22_k1 K := h
   unfold VC22_k1 at h
   refine thenQ_n ?_
   refine sr ?_
   refine rq 1 (ob := (Ts 1 True)) (st' := (⟨26, [sB 4 true], []⟩ : St)) (by kernel_rfl) (tsI 1 trivial) ?_
   refine nn ?_
   refine aw_ret ?_
   exact retQ_r (ob := Ts 1 True) _ (by kernel_rfl) (tsI 1 trivial) h
  ·refine aw_block ?_
   refine aw_loop (σ := Int) (fun s => (⟨26, [s1 0 (.pS a), s1 1 (.pS b), sI 5 s], []⟩ : St)) (fun s X => VC22_l1 a b K s X) (s0 := (0 : Int)) (fun i X1 h => ?_) h
   have h : VC22_l1 a b K i X1 := h
   unfold VC22_l1 at h
   refine aw_seq ?_
   refine sr ?_
   refine rq 4 (ob := (Ts 4 True)) (st' := (⟨26, [s1 0 (.pS a), s1 1 (.pS b), sI 5 i, sB 14 (decide (i < (a.length : Int)))], []⟩ : St)) (by kernel_rfl) (tsI 4 trivial) ?_
   refine nn ?_
   refine aw_cond (b := (decide (i < (a.length : Int)))) (by kernel_rfl) (fun hb => ?_) (fun hb => ?_)
   ·have h := h.1 hb
    refine aw_skip ?_
    refine thenQ_n ?_
    refine aw_seq ?_
    refine aw_block ?_
    refine aw_seq ?_
    refine awd_begin [] (by kernel_rfl) ?_
    obtain ⟨o1, o2, h⟩ := h
    refine drq (by kernel_rfl) [0, 1, 2, 3, 4, 5, 6, 7, 8] (ob := (Ts 2 (inIdx i a.length ∧ Ts 3 (inIdx i b.length ∧ Ts 2 True)))) (done' := [8, 7, 6, 5, 4, 3, 2, 1, 0]) (st' := (⟨26, [s1 0 (.pS a), s1 1 (.pS b), sI 5 i, sB 25 (!decide ((a.getD (i).toNat (0 : Int)) = (b.getD (i).toNat (0 : Int))))], []⟩ : St)) (by kernel_rfl) (tsI 2 (⟨o1, tsI 3 ⟨o2, tsI 2 trivial⟩⟩)) ?_
    refine awd_done (by kernel_rfl) ?_
    refine thenQ_n ?_
    refine aw_cond (b := (!decide ((a.getD (i).toNat (0 : Int)) = (b.getD (i).toNat (0 : Int))))) (by kernel_rfl) (fun hb => ?_) (fun hb => ?_)
    ·have h := h.1 hb
     refine sr ?_
     refine rq 1 (ob := (Ts 1 True)) (st' := (⟨26, [sB 4 false], []⟩ : St)) (by kernel_rfl) (tsI 1 trivial) ?_
     refine nn ?_
     refine aw_ret ?_
     refine blockQ_r ?_
     refine thenQ_r ?_
     refine thenQ_r ?_
     refine blockQ_r ?_
     refine thenQ_r ?_
     exact retQ_r (ob := Ts 1 True) _ (by kernel_rfl) (tsI 1 trivial) h
    ·have h := h.2 hb
     refine aw_skip ?_
     refine blockQ_n ?_
     refine thenQ_n ?_
     refine aw_region ?_
     obtain ⟨o1, h⟩ := h
     refine rq 3 (ob := (Ts 1 (InR (i + (1 : Int)) ∧ Ts 1 True))) (st' := (⟨26, [s1 0 (.pS a), s1 1 (.pS b), sI 5 (i + (1 : Int))], []⟩ : St)) (by kernel_rfl) (tsI 1 ⟨o1, tsI 1 trivial⟩) ?_
     refine awl_nil ?_
     exact thenQ_n ⟨(i + (1 : Int)), rfl, h⟩
   ·have h := h.2 hb
    refine cpr (st' := (⟨26, [], []⟩ : St)) (by kernel_rfl) ?_
    refine aw_exit ?_
    refine thenQ_x ?_
    refine thenQ_x ?_
    refine blockQ_hit ?_
    exact rest1 () h

abbrev e10_0 (g : (Int × (Int × (Int × (List (Int × LI)))))) : Nat × Path × Con := hB 4 [.pI g.1, .pI g.2.1, .pI g.2.2.1, .p (.sl (.pr (.int .i64) (.sl (.int .i64)))) g.2.2.2]
abbrev e10_1 (ret20v : LI × Int) : Nat × Path × AV := s1 9 (.pS ret20v.1)
abbrev e10_2 (ret27v : LI × Int) : Nat × Path × AV := s1 11 (.pS ret27v.1)
-- coppicer/coppicerkeep.PickRise
def VC10_k1 (i : Int) (j : Int) (K : Bool → Prop) (ret20v : LI × Int) (ret27v : LI × Int) (k : Int) : Prop :=
  ((((decide (k < (ret20v.1.length : Int))) && (decide (k < (ret27v.1.length : Int)))) = true → ((decide ((0 : Int) < k)) = false → inIdx (0 : Int) ret20v.1.length)) ∧ (((decide (k < (ret20v.1.length : Int))) && (decide (k < (ret27v.1.length : Int)))) = true → ((decide ((0 : Int) < k)) = false → inIdx (0 : Int) ret27v.1.length)) ∧ K (((decide (k < (ret20v.1.length : Int))) && (decide (k < (ret27v.1.length : Int)))) && ((decide ((0 : Int) < k)) || ((decide (i < j)) == (decide ((ret20v.1.getD ((0 : Int)).toNat (0 : Int)) < (ret27v.1.getD ((0 : Int)).toNat (0 : Int))))))))

def VC10_l1 (i : Int) (j : Int) (K : Bool → Prop) (ret20v : LI × Int) (ret27v : LI × Int) (k : Int) (X1 : Int → Prop) : Prop :=
  ((((decide (k < (ret20v.1.length : Int))) && (decide (k < (ret27v.1.length : Int)))) = true → inIdx k ret20v.1.length) ∧ (((decide (k < (ret20v.1.length : Int))) && (decide (k < (ret27v.1.length : Int)))) = true → inIdx k ret27v.1.length) ∧ (((((decide (k < (ret20v.1.length : Int))) && (decide (k < (ret27v.1.length : Int)))) && (decide ((ret20v.1.getD (k).toNat (0 : Int)) = (ret27v.1.getD (k).toNat (0 : Int))))) = true → (InR (k + (1 : Int)) ∧ X1 (k + (1 : Int)))) ∧ ((((decide (k < (ret20v.1.length : Int))) && (decide (k < (ret27v.1.length : Int)))) && (decide ((ret20v.1.getD (k).toNat (0 : Int)) = (ret27v.1.getD (k).toNat (0 : Int))))) = false → VC10_k1 i j K ret20v ret27v k)))

def VC10 (g : (Int × (Int × (Int × (List (Int × LI)))))) (w : LI) (i : Int) (j : Int) (K : Bool → Prop) : Prop :=
  VC33 g w i (fun (ret20v : LI × Int) => VC33 g w j (fun (ret27v : LI × Int) => VC34 g w (fun (ret33v : Int × Bool) => ((((((((!ret33v.2) || (decide ((1099511627776 : Int) < ret33v.1))) || (decide (i < (0 : Int)))) || (decide (ret33v.1 ≤ i))) || (decide (j < (0 : Int)))) || (decide (ret33v.1 ≤ j))) = true → K ((!decide (ret20v.2 = (0 : Int))) || (!decide (ret27v.2 = (0 : Int))))) ∧ (((((((!ret33v.2) || (decide ((1099511627776 : Int) < ret33v.1))) || (decide (i < (0 : Int)))) || (decide (ret33v.1 ≤ i))) || (decide (j < (0 : Int)))) || (decide (ret33v.1 ≤ j))) = false → ((((((!decide (ret20v.2 = (0 : Int))) || (!decide (ret27v.2 = (0 : Int)))) || (decide ((ret20v.1.length : Int) = (0 : Int)))) || (decide ((ret27v.1.length : Int) = (0 : Int)))) = true → K false) ∧ (((((!decide (ret20v.2 = (0 : Int))) || (!decide (ret27v.2 = (0 : Int)))) || (decide ((ret20v.1.length : Int) = (0 : Int)))) || (decide ((ret27v.1.length : Int) = (0 : Int)))) = false → (((decide (i = j)) = true → VC22 ret20v.1 ret27v.1 (fun (ret87v : Bool) => K ret87v)) ∧ ((decide (i = j)) = false → Loop (σ := Int) (fun s X => VC10_l1 i j K ret20v ret27v s X) (0 : Int))))))))))

set_option maxHeartbeats 4000000 in
theorem link10 (g : (Int × (Int × (Int × (List (Int × LI)))))) (w : LI) (i : Int) (j : Int) (K : Bool → Prop) (h : VC10 g w i j K) : ACalls Try.prog 10 [toV1 (.pr (.int .i64) (.pr (.int .i64) (.pr (.int .i64) (.sl (.pr (.int .i64) (.sl (.int .i64))))))) g, toV1 (.sl (.int .i64)) w, toV1 (.int .i64) i, toV1 (.int .i64) j] (fun res => ∃ y, res = (fun y => [toV1 .bool y]) y ∧ K y) := by
 refine acalls_of_aw [.bool] [.t 8] Try.func10 rfl rfl rfl ?_
 unfold VC10 at h
 refine sr ?_
 refine rq 2 (ob := (Ts 2 True)) (st' := (⟨138, [s1 1 (.pS w), sI 2 i, sI 3 j, sp 4 4], [e10_0 g]⟩ : St)) (by kernel_rfl) (tsI 2 trivial) ?_
 refine nsr ?_
 refine rq 3 (ob := (Ts 3 True)) (st' := (⟨138, [s1 1 (.pS w), sI 2 i, sI 3 j, sp 4 4, sA 17 [.pI g.1, .pI g.2.1, .pI g.2.2.1, .p (.sl (.pr (.int .i64) (.sl (.int .i64)))) g.2.2.2], s1 18 (.pS w), sI 19 i], [e10_0 g]⟩ : St)) (by kernel_rfl) (tsI 3 trivial) ?_
 refine lcq (d := 20) [.d (.pr (.int .i64) (.pr (.int .i64) (.pr (.int .i64) (.sl (.pr (.int .i64) (.sl (.int .i64))))))), .d (.sl (.int .i64)), .d (.int .i64)] (fun ret20v => (⟨138, [s1 1 (.pS w), sI 2 i, sI 3 j, sp 4 4, (20, [], .tup [.c (.pS ret20v.1), .c (.pI ret20v.2)])], [e10_0 g]⟩ : St)) (by kernel_rfl) Try.call33 (fun _ => by kernel_rfl) (link33 g w i _ h) (fun ret20v h => ?_)
 refine rq 5 (ob := (Ts 5 True)) (st' := (⟨138, [s1 1 (.pS w), sI 2 i, sI 3 j, sp 4 4, e10_1 ret20v, sI 10 ret20v.2], [e10_0 g]⟩ : St)) (by kernel_rfl) (tsI 5 trivial) ?_
 refine nsr ?_
 refine rq 3 (ob := (Ts 3 True)) (st' := (⟨138, [s1 1 (.pS w), sI 2 i, sI 3 j, sp 4 4, e10_1 ret20v, sI 10 ret20v.2, sA 24 [.pI g.1, .pI g.2.1, .pI g.2.2.1, .p (.sl (.pr (.int .i64) (.sl (.int .i64)))) g.2.2.2], s1 25 (.pS w), sI 26 j], [e10_0 g]⟩ : St)) (by kernel_rfl) (tsI 3 trivial) ?_
 refine lcq (d := 27) [.d (.pr (.int .i64) (.pr (.int .i64) (.pr (.int .i64) (.sl (.pr (.int .i64) (.sl (.int .i64))))))), .d (.sl (.int .i64)), .d (.int .i64)] (fun ret27v => (⟨138, [s1 1 (.pS w), sI 2 i, sI 3 j, sp 4 4, e10_1 ret20v, sI 10 ret20v.2, (27, [], .tup [.c (.pS ret27v.1), .c (.pI ret27v.2)])], [e10_0 g]⟩ : St)) (by kernel_rfl) Try.call33 (fun _ => by kernel_rfl) (link33 g w j _ h) (fun ret27v h => ?_)
 refine rq 5 (ob := (Ts 5 True)) (st' := (⟨138, [s1 1 (.pS w), sI 2 i, sI 3 j, sp 4 4, e10_1 ret20v, sI 10 ret20v.2, e10_2 ret27v, sI 12 ret27v.2], [e10_0 g]⟩ : St)) (by kernel_rfl) (tsI 5 trivial) ?_
 refine nsr ?_
 refine rq 2 (ob := (Ts 2 True)) (st' := (⟨138, [sI 2 i, sI 3 j, e10_1 ret20v, sI 10 ret20v.2, e10_2 ret27v, sI 12 ret27v.2, sA 31 [.pI g.1, .pI g.2.1, .pI g.2.2.1, .p (.sl (.pr (.int .i64) (.sl (.int .i64)))) g.2.2.2], s1 32 (.pS w)], []⟩ : St)) (by kernel_rfl) (tsI 2 trivial) ?_
 refine lcq (d := 33) [.d (.pr (.int .i64) (.pr (.int .i64) (.pr (.int .i64) (.sl (.pr (.int .i64) (.sl (.int .i64))))))), .d (.sl (.int .i64))] (fun ret33v => (⟨138, [sI 2 i, sI 3 j, e10_1 ret20v, sI 10 ret20v.2, e10_2 ret27v, sI 12 ret27v.2, (33, [], .tup [.c (.pI ret33v.1), .c (.pB ret33v.2)])], []⟩ : St)) (by kernel_rfl) Try.call34 (fun _ => by kernel_rfl) (link34 g w _ h) (fun ret33v h => ?_)
 refine rq 5 (ob := (Ts 5 True)) (st' := (⟨138, [sI 2 i, sI 3 j, e10_1 ret20v, sI 10 ret20v.2, e10_2 ret27v, sI 12 ret27v.2, sI 13 ret33v.1, sB 14 ret33v.2], []⟩ : St)) (by kernel_rfl) (tsI 5 trivial) ?_
 refine nn ?_
 refine aw_seq ?_
 refine sr ?_
 refine rq 24 (ob := (Ts 3 (Ti 2 ((!ret33v.2) = false → True) (Ts 2 (Ti 2 (((!ret33v.2) || (decide ((1099511627776 : Int) < ret33v.1))) = false → True) (Ts 2 (Ti 3 ((((!ret33v.2) || (decide ((1099511627776 : Int) < ret33v.1))) || (decide (i < (0 : Int)))) = false → True) (Ts 2 (Ti 2 (((((!ret33v.2) || (decide ((1099511627776 : Int) < ret33v.1))) || (decide (i < (0 : Int)))) || (decide (ret33v.1 ≤ i))) = false → True) (Ts 2 (Ti 3 ((((((!ret33v.2) || (decide ((1099511627776 : Int) < ret33v.1))) || (decide (i < (0 : Int)))) || (decide (ret33v.1 ≤ i))) || (decide (j < (0 : Int)))) = false → True) (Ts 1 True)))))))))))) (st' := (⟨138, [sI 2 i, sI 3 j, e10_1 ret20v, sI 10 ret20v.2, e10_2 ret27v, sI 12 ret27v.2, sB 59 ((((((!ret33v.2) || (decide ((1099511627776 : Int) < ret33v.1))) || (decide (i < (0 : Int)))) || (decide (ret33v.1 ≤ i))) || (decide (j < (0 : Int)))) || (decide (ret33v.1 ≤ j)))], []⟩ : St)) (by kernel_rfl) (tsI 3 (tiI 2 (fun _ => trivial) (tsI 2 (tiI 2 (fun _ => trivial) (tsI 2 (tiI 3 (fun _ => trivial) (tsI 2 (tiI 2 (fun _ => trivial) (tsI 2 (tiI 3 (fun _ => trivial) (tsI 1 trivial))))))))))) ?_
 refine nn ?_
 refine aw_cond (b := ((((((!ret33v.2) || (decide ((1099511627776 : Int) < ret33v.1))) || (decide (i < (0 : Int)))) || (decide (ret33v.1 ≤ i))) || (decide (j < (0 : Int)))) || (decide (ret33v.1 ≤ j)))) (by kernel_rfl) (fun hb => ?_) (fun hb => ?_)
 ·have h := h.1 hb
  refine sr ?_
  refine rq 7 (ob := (Ts 3 (Ti 2 ((!decide (ret20v.2 = (0 : Int))) = false → True) (Ts 2 True)))) (st' := (⟨138, [sB 8 ((!decide (ret20v.2 = (0 : Int))) || (!decide (ret27v.2 = (0 : Int))))], []⟩ : St)) (by kernel_rfl) (tsI 3 (tiI 2 (fun _ => trivial) (tsI 2 trivial))) ?_
  refine nn ?_
  refine aw_ret ?_
  refine thenQ_r ?_
  exact retQ_r (ob := Ts 1 True) _ (by kernel_rfl) (tsI 1 trivial) h
 ·have h := h.2 hb
  refine aw_skip ?_
  refine thenQ_n ?_
  refine aw_seq ?_
  refine sr ?_
  refine rq 16 (ob := (Ts 3 (Ti 2 ((!decide (ret20v.2 = (0 : Int))) = false → True) (Ts 2 (Ti 3 (((!decide (ret20v.2 = (0 : Int))) || (!decide (ret27v.2 = (0 : Int)))) = false → True) (Ts 2 (Ti 3 ((((!decide (ret20v.2 = (0 : Int))) || (!decide (ret27v.2 = (0 : Int)))) || (decide ((ret20v.1.length : Int) = (0 : Int)))) = false → True) (Ts 1 True)))))))) (st' := (⟨138, [sI 2 i, sI 3 j, e10_1 ret20v, e10_2 ret27v, sB 81 ((((!decide (ret20v.2 = (0 : Int))) || (!decide (ret27v.2 = (0 : Int)))) || (decide ((ret20v.1.length : Int) = (0 : Int)))) || (decide ((ret27v.1.length : Int) = (0 : Int))))], []⟩ : St)) (by kernel_rfl) (tsI 3 (tiI 2 (fun _ => trivial) (tsI 2 (tiI 3 (fun _ => trivial) (tsI 2 (tiI 3 (fun _ => trivial) (tsI 1 trivial))))))) ?_
  refine nn ?_
  refine aw_cond (b := ((((!decide (ret20v.2 = (0 : Int))) || (!decide (ret27v.2 = (0 : Int)))) || (decide ((ret20v.1.length : Int) = (0 : Int)))) || (decide ((ret27v.1.length : Int) = (0 : Int))))) (by kernel_rfl) (fun hb => ?_) (fun hb => ?_)
  ·have h := h.1 hb
   refine sr ?_
   refine rq 1 (ob := (Ts 1 True)) (st' := (⟨138, [sB 8 false], []⟩ : St)) (by kernel_rfl) (tsI 1 trivial) ?_
   refine nn ?_
   refine aw_ret ?_
   refine thenQ_r ?_
   exact retQ_r (ob := Ts 1 True) _ (by kernel_rfl) (tsI 1 trivial) h
  ·have h := h.2 hb
   refine aw_skip ?_
   refine thenQ_n ?_
   refine aw_seq ?_
   refine sr ?_
   refine rq 3 (ob := (Ts 3 True)) (st' := (⟨138, [sI 2 i, sI 3 j, e10_1 ret20v, e10_2 ret27v, sB 84 (decide (i = j))], []⟩ : St)) (by kernel_rfl) (tsI 3 trivial) ?_
   refine nn ?_
   refine aw_cond (b := (decide (i = j))) (by kernel_rfl) (fun hb => ?_) (fun hb => ?_)
   ·have h := h.1 hb
    refine sr ?_
    refine rq 2 (ob := (Ts 2 True)) (st' := (⟨138, [s1 85 (.pS ret20v.1), s1 86 (.pS ret27v.1)], []⟩ : St)) (by kernel_rfl) (tsI 2 trivial) ?_
    refine lcq (d := 87) [.d (.sl (.int .i64)), .d (.sl (.int .i64))] (fun ret87v => (⟨138, [sB 87 ret87v], []⟩ : St)) (by kernel_rfl) Try.call22 (fun _ => by kernel_rfl) (link22 ret20v.1 ret27v.1 _ h) (fun ret87v h => ?_)
    refine rq 1 (ob := (Ts 1 True)) (st' := (⟨138, [sB 8 ret87v], []⟩ : St)) (by kernel_rfl) (tsI 1 trivial) ?_
    refine nn ?_
    refine aw_ret ?_
    refine thenQ_r ?_
    exact retQ_r (ob := Ts 1 True) _ (by kernel_rfl) (tsI 1 trivial) h
   ·have h := h.2 hb
    refine aw_skip ?_
    refine thenQ_n ?_
    refine sr ?_
    refine rq 1 (ob := (Ts 1 True)) (st' := (⟨138, [sI 2 i, sI 3 j, e10_1 ret20v, e10_2 ret27v, sI 15 (0 : Int)], []⟩ : St)) (by kernel_rfl) (tsI 1 trivial) ?_
    refine nn ?_
    refine aw_seq ?_
    refine withJoin (σ := Int) (fun s => (⟨138, [sI 2 i, sI 3 j, e10_1 ret20v, e10_2 ret27v, sI 15 s], []⟩ : St)) (fun s => VC10_k1 i j K ret20v ret27v s) (fun k h => ?_) (fun rest1 => ?_)
    ·have h : VC10_k1 i j K ret20v ret27v k := h
     unfold VC10_k1 at h
     refine thenQ_n ?_
     refine aw_seq ?_
     refine awd_begin [] (by kernel_rfl) ?_
     obtain ⟨o1, o2, h⟩ := h
     refine drq (by kernel_rfl) [0, 1, 2, 3, 4, 5, 6, 7, 8, 9, 10, 11, 12, 13, 14, 15, 16, 17, 18, 19, 20, 21, 22, 23, 24, 25, 26, 27] (ob := (Ts 5 (Ti 4 ((decide (k < (ret20v.1.length : Int))) = true → True) (Ts 2 (Ti 3 (((decide (k < (ret20v.1.length : Int))) && (decide (k < (ret27v.1.length : Int)))) = true → True) ((((decide (k < (ret20v.1.length : Int))) && (decide (k < (ret27v.1.length : Int)))) = true → ((decide ((0 : Int) < k)) = false → True)) ∧ (((decide (k < (ret20v.1.length : Int))) && (decide (k < (ret27v.1.length : Int)))) = true → ((decide ((0 : Int) < k)) = false → True)) ∧ (((decide (k < (ret20v.1.length : Int))) && (decide (k < (ret27v.1.length : Int)))) = true → ((decide ((0 : Int) < k)) = false → True)) ∧ (((decide (k < (ret20v.1.length : Int))) && (decide (k < (ret27v.1.length : Int)))) = true → ((decide ((0 : Int) < k)) = false → True)) ∧ (((decide (k < (ret20v.1.length : Int))) && (decide (k < (ret27v.1.length : Int)))) = true → ((decide ((0 : Int) < k)) = false → inIdx (0 : Int) ret20v.1.length)) ∧ (((decide (k < (ret20v.1.length : Int))) && (decide (k < (ret27v.1.length : Int)))) = true → ((decide ((0 : Int) < k)) = false → True)) ∧ (((decide (k < (ret20v.1.length : Int))) && (decide (k < (ret27v.1.length : Int)))) = true → ((decide ((0 : Int) < k)) = false → True)) ∧ (((decide (k < (ret20v.1.length : Int))) && (decide (k < (ret27v.1.length : Int)))) = true → ((decide ((0 : Int) < k)) = false → inIdx (0 : Int) ret27v.1.length)) ∧ (((decide (k < (ret20v.1.length : Int))) && (decide (k < (ret27v.1.length : Int)))) = true → ((decide ((0 : Int) < k)) = false → True)) ∧ (((decide (k < (ret20v.1.length : Int))) && (decide (k < (ret27v.1.length : Int)))) = true → ((decide ((0 : Int) < k)) = false → True)) ∧ (((decide (k < (ret20v.1.length : Int))) && (decide (k < (ret27v.1.length : Int)))) = true → ((decide ((0 : Int) < k)) = false → True)) ∧ (((decide (k < (ret20v.1.length : Int))) && (decide (k < (ret27v.1.length : Int)))) = true → True) ∧ Ts 2 True)))))) (done' := [27, 26, 25, 24, 23, 22, 21, 20, 19, 18, 17, 16, 15, 14, 13, 12, 11, 10, 9, 8, 7, 6, 5, 4, 3, 2, 1, 0]) (st' := (⟨138, [sB 8 (((decide (k < (ret20v.1.length : Int))) && (decide (k < (ret27v.1.length : Int)))) && ((decide ((0 : Int) < k)) || ((decide (i < j)) == (decide ((ret20v.1.getD ((0 : Int)).toNat (0 : Int)) < (ret27v.1.getD ((0 : Int)).toNat (0 : Int)))))))], []⟩ : St)) (by kernel_rfl) (tsI 5 (tiI 4 (fun _ => trivial) (tsI 2 (tiI 3 (fun _ => trivial) (tiI 4 (fun _ _ => trivial) (⟨o1, tiI 2 (fun _ _ => trivial) (⟨o2, tiI 3 (fun _ _ => trivial) ⟨(fun _ => trivial), tsI 2 trivial⟩⟩)⟩)))))) ?_
     refine awd_done (by kernel_rfl) ?_
     refine thenQ_n ?_
     refine aw_ret ?_
     exact retQ_r (ob := Ts 1 True) _ (by kernel_rfl) (tsI 1 trivial) h
    ·refine aw_block ?_
     refine aw_loop (σ := Int) (fun s => (⟨138, [sI 2 i, sI 3 j, e10_1 ret20v, e10_2 ret27v, sI 15 s], []⟩ : St)) (fun s X => VC10_l1 i j K ret20v ret27v s X) (s0 := (0 : Int)) (fun k X1 h => ?_) h
     have h : VC10_l1 i j K ret20v ret27v k X1 := h
     unfold VC10_l1 at h
     refine aw_seq ?_
     refine aw_seq ?_
     refine awd_begin [] (by kernel_rfl) ?_
     obtain ⟨o1, o2, h⟩ := h
     refine drq (by kernel_rfl) [0, 1, 2, 3, 4, 5, 6, 7, 8, 9, 10, 11, 12, 13, 14, 15, 16, 17, 18, 19, 20] (ob := (Ts 5 (Ti 4 ((decide (k < (ret20v.1.length : Int))) = true → True) (Ts 2 (Ti 2 (((decide (k < (ret20v.1.length : Int))) && (decide (k < (ret27v.1.length : Int)))) = true → True) ((((decide (k < (ret20v.1.length : Int))) && (decide (k < (ret27v.1.length : Int)))) = true → inIdx k ret20v.1.length) ∧ Ti 3 (((decide (k < (ret20v.1.length : Int))) && (decide (k < (ret27v.1.length : Int)))) = true → True) ((((decide (k < (ret20v.1.length : Int))) && (decide (k < (ret27v.1.length : Int)))) = true → inIdx k ret27v.1.length) ∧ Ti 2 (((decide (k < (ret20v.1.length : Int))) && (decide (k < (ret27v.1.length : Int)))) = true → True) (Ts 1 True)))))))) (done' := [20, 19, 18, 17, 16, 15, 14, 13, 12, 11, 10, 9, 8, 7, 6, 5, 4, 3, 2, 1, 0]) (st' := (⟨138, [sI 2 i, sI 3 j, e10_1 ret20v, e10_2 ret27v, sI 15 k, sB 108 (((decide (k < (ret20v.1.length : Int))) && (decide (k < (ret27v.1.length : Int)))) && (decide ((ret20v.1.getD (k).toNat (0 : Int)) = (ret27v.1.getD (k).toNat (0 : Int)))))], []⟩ : St)) (by kernel_rfl) (tsI 5 (tiI 4 (fun _ => trivial) (tsI 2 (tiI 2 (fun _ => trivial) (⟨o1, tiI 3 (fun _ => trivial) ⟨o2, tiI 2 (fun _ => trivial) (tsI 1 trivial)⟩⟩))))) ?_
     refine awd_done (by kernel_rfl) ?_
     refine thenQ_n ?_
     refine aw_cond (b := (((decide (k < (ret20v.1.length : Int))) && (decide (k < (ret27v.1.length : Int)))) && (decide ((ret20v.1.getD (k).toNat (0 : Int)) = (ret27v.1.getD (k).toNat (0 : Int)))))) (by kernel_rfl) (fun hb => ?_) (fun hb => ?_)
     ·have h := h.1 hb
      refine aw_skip ?_
      refine thenQ_n ?_
      refine aw_block ?_
      refine aw_region ?_
      obtain ⟨o1, h⟩ := h
      refine rq 3 (ob := (Ts 1 (InR (k + (1 : Int)) ∧ Ts 1 True))) (st' := (⟨138, [sI 2 i, sI 3 j, e10_1 ret20v, e10_2 ret27v, sI 15 (k + (1 : Int))], []⟩ : St)) (by kernel_rfl) (tsI 1 ⟨o1, tsI 1 trivial⟩) ?_
      refine awl_nil ?_
      refine blockQ_n ?_
      exact thenQ_n ⟨(k + (1 : Int)), rfl, h⟩
     ·have h := h.2 hb
      refine cpr (st' := (⟨138, [sI 2 i, sI 3 j, e10_1 ret20v, e10_2 ret27v, sI 15 k], []⟩ : St)) (by kernel_rfl) ?_
      refine aw_exit ?_
      refine thenQ_x ?_
      refine thenQ_x ?_
      refine blockQ_hit ?_
      exact rest1 k h

end Dec
