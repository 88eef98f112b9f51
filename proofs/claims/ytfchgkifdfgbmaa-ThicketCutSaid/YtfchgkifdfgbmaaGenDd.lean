/-
Printed by dec2.py: of each function its plain demand, and that the demand gives the contract.
-/
import Derived.Test.YtfchgkifdfgbmaaGenDc
set_option linter.unusedSimpArgs false
set_option linter.unusedVariables false
set_option maxRecDepth 100000
set_option maxHeartbeats 4000000
namespace Dec
open Go Go.RowKit Go.Proofs
abbrev e9a0 (g : TG) (w : LI) := hB 30301 [.pI g.1, .pI g.2.1, .pI g.2.2.1, .p (.sl tR) g.2.2.2, .pS w, .own 30300]
abbrev e9a1 (g : TG) (w : LI) := hB 7 [.pI (-1 : Int), .pI (g.1 + g.2.2.1), .pI (0 : Int), .pI (w.length : Int)]
abbrev e9a2 : Nat × Path × Con := (30300, [], .dict (.pr tI t3) tI ([] : List Lqi))
abbrev e9a3 (g : TG) (w : LI) := hB 70400 [.pI g.1, .pI g.2.1, .pI g.2.2.1, .p (.sl tR) g.2.2.2, .pS w, .own 70401]
abbrev e9a4 (g : TG) := hB 2 [.pI g.1, .pI g.2.1, .pI g.2.2.1, .p (.sl tR) g.2.2.2]
abbrev e9a5 (g : TG) := s1 56 (.p (.sl tR) g.2.2.2)
abbrev e9a6 (w : LI) := hB 5 [.pI (0 : Int), .pI (w.length : Int)]
abbrev e9a7 (l30300 : LK) : Nat × Path × Con := (30300, [], .dict (.pr tI t3) tI l30300)
abbrev e9a8 (g : TG) := hB 30100 [.pI g.1, .pI g.2.1, .pI g.2.2.1, .p (.sl tR) g.2.2.2]
abbrev e9a9 (g : TG) := sI 1 (g.1 + g.2.2.1)
abbrev e9a10 (g : TG) (w : LI) := hB 9 [.pI g.1, .pI g.2.1, .pI g.2.2.1, .p (.sl tR) g.2.2.2, .pS w, .own 7]
abbrev e9a11 (g : TG) := sI 57 (g.2.2.2.length : Int)
abbrev e9a12 : Nat × Path × Con := (7, [], .dict (.pr tI t3) tI ([] : List Lqi))
abbrev e9a13 (ret77v : Int × LK) : Nat × Path × Con := (70401, [], .dict (.pr tI t3) tI ret77v.2)
abbrev e9a14 (g : TG) (w : LI) := sI 8 ((mget ([] : List Lqi) ((-1 : Int), ((g.1 + g.2.2.1), ((0 : Int), (w.length : Int))))).getD (0 : Int))
abbrev e9a15 := sp 95 30301
abbrev e9a16 (l30300 : LK) (g : TG) (w : LI) (n : Int) : Nat × Path × Con := (30300, [], .dict (.pr tI t3) tI (mset l30300 ((-1 : Int), ((g.1 + g.2.2.1), ((0 : Int), (w.length : Int)))) n))
abbrev e9a17 (w : LI) := s1 1 (.pS w)
abbrev e9a18 (g : TG) := sA 10 [.pI g.1, .pI g.2.1, .pI g.2.2.1, .p (.sl tR) g.2.2.2]
abbrev e9a19 (g : TG) := sA 19 [.pI g.1, .pI g.2.1, .pI g.2.2.1, .p (.sl tR) g.2.2.2]
abbrev e9a20 (g : TG) := sA 0 [.pI g.1, .pI g.2.1, .pI g.2.2.1, .p (.sl tR) g.2.2.2]
abbrev e9a21 (l30300 : LK) : Nat × Path × Con := (70401, [], .dict (.pr tI t3) tI l30300)
abbrev e9a22 := sp 0 30301
abbrev e9a23 (w : LI) := sA 76 [.pI (0 : Int), .pI (w.length : Int)]
abbrev e9a24 := sp 95 70400
abbrev e9an0 : List Nat := [0, 1, 5, 7, 10, 56, 57, 58, 95]
-- coppicer/table.Trees
def VC9_k1 (K : Int × Int → Prop) (v6 : Int) : Prop :=
  K ((0 : Int), v6)
def VC9_k2 (K : Int × Int → Prop) (v6 : Int) (l30300 : LK) : Prop :=
  (((decide ((1099511627776 : Int) < v6)) = true → VC9_k1 K (1 : Int)) ∧ ((decide ((1099511627776 : Int) < v6)) = false → K (v6, (0 : Int))))
def VC9_k3 (g : TG) (w : LI) (K : Int × Int → Prop) (n : Int) (l30300 : LK) : Prop :=
  VC9_k2 K n (mset l30300 ((-1 : Int), ((g.1 + g.2.2.1), ((0 : Int), (w.length : Int)))) n)
def VC9_k4 (v58 : Int) (X1 : Int × Int × LK → Prop) (n2 : Int) (l70401 : LK) : Prop :=
  (InR (v58 + (1 : Int)) ∧ X1 (n2, (v58 + (1 : Int)), l70401))
def VC9_l1 (g : TG) (w : LI) (K : Int × Int → Prop) (n v58 : Int) (l30300 : LK) (X1 : Int × Int × LK → Prop) : Prop :=
  (((decide (v58 < (g.2.2.2.length : Int))) = true → (inIdx v58 g.2.2.2.length ∧ (InR ((g.1 + g.2.2.1) - g.1) ∧ (((decide ((g.2.2.2.getD (v58).toNat ((0 : Int), ([] : LI))).1 = ((g.1 + g.2.2.1) - g.1))) = true → VCcr66 g.1 g.2.1 g.2.2.1 g.2.2.2 w v58 (0 : Int) (0 : Int) (w.length : Int) l30300 (fun (ret77v : Int × LK) => VC25 n ret77v.1 (fun (ret78v : Int) => VC9_k4 v58 X1 ret78v ret77v.2))) ∧ ((decide ((g.2.2.2.getD (v58).toNat ((0 : Int), ([] : LI))).1 = ((g.1 + g.2.2.1) - g.1))) = false → VC9_k4 v58 X1 n l30300))))) ∧ ((decide (v58 < (g.2.2.2.length : Int))) = false → VC9_k3 g w K n l30300))
def VC9 (g : TG) (w : LI) (K : Int × Int → Prop) : Prop :=
  VC12 g w (fun (ret12v : Int) => (((!decide (ret12v = (0 : Int))) = true → VC9_k1 K ret12v) ∧ ((!decide (ret12v = (0 : Int))) = false → VC13 g (fun (ret17v : Bool) => (((!ret17v) = true → VC9_k1 K (3 : Int)) ∧ ((!ret17v) = false → (InR (g.1 + g.2.2.1) ∧ (((decide ((g.1 + g.2.2.1) < g.1)) = true → (InR ((0 : Int) + (1 : Int)) ∧ ((decide ((w.length : Int) = ((0 : Int) + (1 : Int)))) = true → inIdx (0 : Int) w.length) ∧ ((((decide ((w.length : Int) = ((0 : Int) + (1 : Int)))) && (decide ((w.getD ((0 : Int)).toNat (0 : Int)) = (g.1 + g.2.2.1)))) = true → VC9_k2 K (1 : Int) ([] : List Lqi)) ∧ (((decide ((w.length : Int) = ((0 : Int) + (1 : Int)))) && (decide ((w.getD ((0 : Int)).toNat (0 : Int)) = (g.1 + g.2.2.1)))) = false → VC9_k2 K (0 : Int) ([] : List Lqi))))) ∧ ((decide ((g.1 + g.2.2.1) < g.1)) = false → (((mget ([] : List Lqi) ((-1 : Int), ((g.1 + g.2.2.1), ((0 : Int), (w.length : Int))))).isSome = true → VC9_k2 K ((mget ([] : List Lqi) ((-1 : Int), ((g.1 + g.2.2.1), ((0 : Int), (w.length : Int))))).getD (0 : Int)) ([] : List Lqi)) ∧ ((mget ([] : List Lqi) ((-1 : Int), ((g.1 + g.2.2.1), ((0 : Int), (w.length : Int))))).isSome = false → Loop (σ := Int × Int × LK) (fun s X => VC9_l1 g w K s.1 s.2.1 s.2.2 X) ((0 : Int), (0 : Int), ([] : List Lqi)))))))))))))
abbrev dax0 := ([] : List Lqi)
abbrev dax1 (g : TG) (w : LI) := ((-1 : Int), ((g.1 + g.2.2.1), ((0 : Int), (w.length : Int))))
abbrev dax2 (w : LI) := decide ((w.length : Int) = ((0 : Int) + (1 : Int)))
theorem link9 (g : TG) (w : LI) (K : Int × Int → Prop) (h : VC9 g w K) : ACalls Try.prog 9 [toV1 tG g, toV1 (.sl tI) w] (fun res => ∃ y, res = (fun y => [toV1 tI y.1, toV1 tI y.2]) y ∧ K y) := by
 refine acalls_of_aw [tI, tI] [.t 4, .t 5] Try.func9 rfl rfl rfl ?_
 unfold VC9 at h
 refine sr (qT 3 ⟨18, [e9a17 w, sp 2 2], [e9a4 g]⟩ (nsr (qT 2 ⟨18, [e9a18 g, s1 11 (.pS w)], []⟩ (awl_inlr [.t 4, .t 5, .t 6] [] [.agg [.pI g.1, .pI g.2.1, .pI g.2.2.1, .p (.sl tR) g.2.2.2], .c (.pS w)] [] rfl rfl (by kernel_rfl) rfl (by kernel_rfl) Try.call22 (by kernel_rfl) (by kernel_rfl) Try.func22 rfl rfl (by kernel_rfl) ?_))))
 refine qV [] ⟨36, [e9a20 g, e9a17 w, sA 46 [.pI g.1, .pI g.2.1, .pI g.2.2.1, .p (.sl tR) g.2.2.2], s1 47 (.pS w)], []⟩ (withJoinR (σ := Int) (fun s => ⟨36, [s1 4 (.any), sI 5 (0 : Int), sI 6 s], []⟩) (fun s => VC9_k1 K s) (fun v6 h => ?_) (fun rest1 => ?_))
 ·have h : VC9_k1 K v6 := h
  unfold VC9_k1 at h
  refine inlR_n (ob := (True ∧ True ∧ True ∧ True)) (.tup [.c (.any), .c (.pI (0 : Int)), .c (.pI v6)]) (by kernel_rfl) ⟨trivial, trivial, trivial, trivial⟩ rfl ?_
  exact qL ⟨18, [(12, [], .tup [.c (.any), .c (.pI (0 : Int)), .c (.pI v6)])], []⟩ (qT 7 ⟨18, [sI 7 (0 : Int), sI 8 v6], []⟩ (nsr (qT 4 ⟨18, [sI 4 (0 : Int), sI 5 v6], []⟩ (nn (aw_ret (qE 2 h))))))
 ·refine qS 4 ⟨36, [e9a17 w, sp 2 2], [e9a4 g]⟩ (aw_seq (sr (qT 2 ⟨36, [e9a17 w, sp 2 2, e9a18 g, s1 11 (.pS w)], [e9a4 g]⟩ (qK 12 [.d tG, .d (.sl tI)] (fun ret12v => ⟨36, [e9a17 w, sp 2 2, sI 12 ret12v], [e9a4 g]⟩) Try.call12 (link12 g w _ h) fun ret12v h => ?_))))
  refine qT 1 ⟨36, [e9a17 w, sp 2 2, sI 7 ret12v], [e9a4 g]⟩ (nsr (qT 2 ⟨36, [e9a17 w, sp 2 2, sI 7 ret12v, sB 14 (!decide (ret12v = (0 : Int)))], [e9a4 g]⟩ (nn (qI h (fun h => ?_) fun h => ?_))))
  ·exact qS 4 ⟨36, [s1 4 (.any), sI 5 (0 : Int), sI 6 ret12v], []⟩ (aw_ret (thenQ_r (rest1 ret12v h)))
  ·refine aw_skip (thenQ_n (aw_seq (sr (qT 1 ⟨36, [e9a17 w, sp 2 2, sA 16 [.pI g.1, .pI g.2.1, .pI g.2.2.1, .p (.sl tR) g.2.2.2]], [e9a4 g]⟩ (qK 17 [.d tG] (fun ret17v => ⟨36, [e9a17 w, sp 2 2, sB 17 ret17v], [e9a4 g]⟩) Try.call13 (link13 g _ h) fun ret17v h => ?_)))))
   refine qT 1 ⟨36, [e9a17 w, sp 2 2, sB 18 (!ret17v)], [e9a4 g]⟩ (nn (qI h (fun h => ?_) fun h => ?_))
   ·exact qS 3 ⟨36, [s1 4 (.any), sI 5 (0 : Int), sI 6 (3 : Int)], []⟩ (aw_ret (thenQ_r (rest1 (3 : Int) h)))
   ·refine aw_skip (thenQ_n (sr (qT 2 ⟨36, [e9a17 w, sp 2 2, e9a19 g, s1 20 (.pS w)], [e9a4 g]⟩ (qW [.ren 2 30100] ⟨36, [e9a17 w, sp 2 30100, e9a19 g, s1 20 (.pS w)], [e9a8 g]⟩ (awl_inlr [.t 4] [30100] [.agg [.pI g.1, .pI g.2.1, .pI g.2.2.1, .p (.sl tR) g.2.2.2], .c (.pS w)] [] rfl rfl (by kernel_rfl) rfl (by kernel_rfl) Try.call44 (by kernel_rfl) (by kernel_rfl) Try.func44 rfl rfl (by kernel_rfl) ?_)))))
    refine qV [] ⟨10, [e9a20 g, e9a17 w, s1 11 (.pS w), sp 12 30100, sA 29 [.pI g.1, .pI g.2.1, .pI g.2.2.1, .p (.sl tR) g.2.2.2], s1 30 (.pS w)], [e9a8 g]⟩ (sr (qT 2 ⟨10, [e9a17 w, sp 2 2, s1 11 (.pS w), sp 12 30100], [e9a4 g, e9a8 g]⟩ (nsr (qT 6 ⟨10, [sp 4 9, s1 11 (.pS w), sp 12 30100], [e9a12, e9a10 g w, e9a8 g]⟩ (nn (aw_ret (inlR_r (ob := True) (.v (.c (.ptr 9 0))) (by kernel_rfl) trivial rfl ?_)))))))
    refine qL ⟨36, [e9a17 w, sp 2 30100, sp 21 9], [e9a12, e9a10 g w, e9a8 g]⟩ (qT 1 ⟨36, [e9a17 w, sp 2 30100, sp 8 9], [e9a12, e9a10 g w, e9a8 g]⟩ (nsr (qA 9 5 3 ⟨36, [sp 8 9, sp 22 9, sI 27 (g.1 + g.2.2.1), sA 30 [.pI (0 : Int), .pI (w.length : Int)]], [e9a12, e9a10 g w]⟩ h fun h => qW [.ren 7 30300, .ren 9 30301] ⟨36, [sp 8 30301, sp 22 30301, sI 27 (g.1 + g.2.2.1), sA 30 [.pI (0 : Int), .pI (w.length : Int)]], [e9a2, e9a0 g w]⟩ (awl_inlr [.t 6] [30300, 30301] [.c (.ptr 30301 0), .c (.pI (g.1 + g.2.2.1)), .agg [.pI (0 : Int), .pI (w.length : Int)]] [] rfl rfl (by kernel_rfl) rfl (by kernel_rfl) Try.call45 (by kernel_rfl) (by kernel_rfl) Try.func45 rfl rfl (by kernel_rfl) ?_))))
    refine qV [] ⟨87, [e9a22, e9a9 g, sA 2 [.pI (0 : Int), .pI (w.length : Int)], e9a15, sp 109 30301, sI 114 (g.1 + g.2.2.1), sA 117 [.pI (0 : Int), .pI (w.length : Int)]], [e9a2, e9a0 g w]⟩ (withJoinR (σ := Int × LK) (fun s => ⟨87, [sI 6 s.1, e9a15], [(30300, [], .dict (.pr tI t3) tI s.2), e9a0 g w]⟩) (fun s => VC9_k2 K s.1 s.2) (fun s h => ?_) (fun rest2 => ?_))
    ·obtain ⟨v6, l30300⟩ := s
     have h : VC9_k2 K v6 l30300 := h
     unfold VC9_k2 at h
     refine inlR_n (ob := True) (.v (.c (.pI v6))) (by kernel_rfl) trivial rfl ?_
     refine qL ⟨36, [sp 8 30301, sI 31 v6], [e9a7 l30300, e9a0 g w]⟩ (qT 1 ⟨36, [sp 8 30301, sI 9 v6], [e9a7 l30300, e9a0 g w]⟩ (nn (aw_seq (qS 2 ⟨36, [sp 8 30301, sI 9 v6, sB 33 (decide ((1099511627776 : Int) < v6))], [e9a7 l30300, e9a0 g w]⟩ (qI h (fun h => ?_) fun h => ?_)))))
     ·exact qS 3 ⟨36, [s1 4 (.any), sI 5 (0 : Int), sI 6 (1 : Int)], []⟩ (aw_ret (thenQ_r (rest1 (1 : Int) h)))
     ·refine aw_skip (thenQ_n (qS 5 ⟨36, [sp 4 30301, sI 5 v6, sI 6 (0 : Int)], [e9a7 l30300, e9a0 g w]⟩ (aw_ret (inlR_r (ob := (True ∧ True ∧ True ∧ True)) (.tup [.c (.ptr 30301 0), .c (.pI v6), .c (.pI (0 : Int))]) (by kernel_rfl) ⟨trivial, trivial, trivial, trivial⟩ rfl ?_))))
      exact qL ⟨18, [(12, [], .tup [.c (.ptr 30301 0), .c (.pI v6), .c (.pI (0 : Int))])], [e9a7 l30300, e9a0 g w]⟩ (qT 7 ⟨18, [sI 7 v6, sI 8 (0 : Int)], []⟩ (nsr (qT 4 ⟨18, [sI 4 v6, sI 5 (0 : Int)], []⟩ (nn (aw_ret (qE 2 h))))))
    ·refine qS 2 ⟨87, [e9a22, e9a9 g, sp 5 5, e9a15], [e9a6 w, e9a2, e9a0 g w]⟩ (aw_seq (qS 7 ⟨87, [e9a22, e9a9 g, sp 5 5, sB 19 (decide ((g.1 + g.2.2.1) < g.1)), e9a15], [e9a6 w, e9a2, e9a0 g w]⟩ (qI h (fun h => ?_) fun h => ?_)))
     ·refine aw_seq (aw_seq (awd_begin [] (by kernel_rfl) ?_))
      obtain ⟨o1, o2, h⟩ := h
      refine qD [0, 1, 2, 3, 4, 5, 6, 7, 8, 9, 10, 11, 12, 13, 14, 15, 16, 17] [17, 16, 15, 14, 13, 12, 11, 10, 9, 8, 7, 6, 5, 4, 3, 2, 1, 0] ⟨87, [sB 37 ((dax2 w) && (decide ((w.getD ((0 : Int)).toNat (0 : Int)) = (g.1 + g.2.2.1)))), e9a15], [e9a2, e9a0 g w]⟩ (ob := Ts 4 (InR ((0 : Int) + (1 : Int)) ∧ Ts 2 (Ti 6 ((dax2 w) = true → True) (((dax2 w) = true → inIdx (0 : Int) w.length) ∧ Ti 3 ((dax2 w) = true → True) (Ts 1 True))))) (tsI 4 (⟨o1, tsI 2 (tiI 6 (fun _ => trivial) ⟨o2, tiI 3 (fun _ => trivial) (tsI 1 trivial)⟩)⟩)) ?_
      refine awd_done (by kernel_rfl) ?_
      refine thenQ_n (qI h (fun h => ?_) fun h => ?_)
      ·exact qS 1 ⟨87, [sI 6 (1 : Int), e9a15], [e9a2, e9a0 g w]⟩ (aw_ret (thenQ_r (thenQ_r (rest2 ((1 : Int), dax0) h))))
      ·exact aw_skip (thenQ_n (qS 1 ⟨87, [sI 6 (0 : Int), e9a15], [e9a2, e9a0 g w]⟩ (aw_ret (thenQ_r (rest2 ((0 : Int), dax0) h)))))
     ·refine aw_skip (thenQ_n (qS 5 ⟨87, [e9a22, e9a9 g, sp 5 5, sp 7 7, e9a15], [e9a6 w, e9a1 g w, e9a2, e9a0 g w]⟩ (aw_seq (aw_seq (awd_begin [] (by kernel_rfl) ?_)))))
      refine qDT 11 [0, 1, 2, 3, 4, 5, 6, 7, 8, 9, 10] [10, 9, 8, 7, 6, 5, 4, 3, 2, 1, 0] ⟨87, [e9a22, e9a9 g, sp 5 5, sp 7 7, e9a14 g w, sB 9 ((mget dax0 (dax1 g w)).isSome), e9a15], [e9a6 w, e9a1 g w, e9a2, e9a0 g w]⟩ (awd_done (by kernel_rfl) ?_)
      refine thenQ_n (qS 1 ⟨87, [e9a22, e9a9 g, sp 5 5, sp 7 7, e9a14 g w, sB 50 ((mget dax0 (dax1 g w)).isSome), e9a15], [e9a6 w, e9a1 g w, e9a2, e9a0 g w]⟩ (qI h (fun h => ?_) fun h => ?_))
      ·exact qS 2 ⟨87, [sI 6 ((mget dax0 (dax1 g w)).getD (0 : Int)), e9a15], [e9a2, e9a0 g w]⟩ (aw_ret (thenQ_r (rest2 (((mget dax0 (dax1 g w)).getD (0 : Int)), dax0) h)))
      ·refine aw_skip (thenQ_n (qS 1 ⟨87, [e9a22, e9a9 g, sp 5 5, sp 7 7, sI 10 (0 : Int), e9a15], [e9a6 w, e9a1 g w, e9a2, e9a0 g w]⟩ (aw_seq (qS 7 ⟨87, [e9a22, e9a9 g, sp 5 5, sp 7 7, sI 10 (0 : Int), e9a5 g, e9a11 g, sI 58 (0 : Int), e9a15], [e9a6 w, e9a1 g w, e9a2, e9a0 g w]⟩ (withJoin (σ := Int × LK) (fun s => ⟨87, [e9a22, sp 7 7, sI 10 s.1, e9a15], [e9a1 g w, (30300, [], .dict (.pr tI t3) tI s.2), e9a0 g w]⟩) (fun s => VC9_k3 g w K s.1 s.2) (fun s h => ?_) (fun rest3 => ?_))))))
       ·obtain ⟨n, l30300⟩ := s
        have h : VC9_k3 g w K n l30300 := h
        unfold VC9_k3 at h
        refine thenQ_n (aw_seq (awd_begin [30300] (by kernel_rfl) ?_))
        refine qDT 6 [0, 1, 2, 3, 4, 5] [5, 4, 3, 2, 1, 0] ⟨87, [sI 10 n, s1 83 (.own 30300), sA 84 [.pI (-1 : Int), .pI (g.1 + g.2.2.1), .pI (0 : Int), .pI (w.length : Int)], sI 85 n, e9a15], [e9a7 l30300, e9a0 g w]⟩ (awd_one (i := 6) (by kernel_rfl) ?_)
        refine dsq (ob := True) (st' := ⟨87, [sI 10 n, e9a15], [e9a16 l30300 g w n, e9a0 g w]⟩) rfl (by kernel_rfl) trivial ?_
        refine awd_done (by kernel_rfl) ?_
        exact thenQ_n (qS 2 ⟨87, [sI 6 n, e9a15], [e9a16 l30300 g w n, e9a0 g w]⟩ (aw_ret (rest2 (n, (mset l30300 (dax1 g w) n)) h)))
       ·refine aw_block (aw_loop (σ := Int × Int × LK) (fun s => ⟨87, [e9a22, e9a9 g, sp 5 5, sp 7 7, sI 10 s.1, e9a5 g, e9a11 g, sI 58 s.2.1, e9a15], [e9a6 w, e9a1 g w, (30300, [], .dict (.pr tI t3) tI s.2.2), e9a0 g w]⟩) (fun s X => VC9_l1 g w K s.1 s.2.1 s.2.2 X) (s0 := ((0 : Int), (0 : Int), dax0)) (fun s X1 h => ?_) h)
        obtain ⟨n, v58, l30300⟩ := s
        have h : VC9_l1 g w K n v58 l30300 X1 := h
        unfold VC9_l1 at h
        refine qS 1 ⟨87, [e9a22, e9a9 g, sp 5 5, sp 7 7, sI 10 n, e9a5 g, e9a11 g, sI 58 v58, sB 59 (decide (v58 < (g.2.2.2.length : Int))), e9a15], [e9a6 w, e9a1 g w, e9a7 l30300, e9a0 g w]⟩ (aw_seq (qI h (fun h => ?_) fun h => ?_))
        ·refine aw_skip (thenQ_n (aw_seq (aw_block (sr (qA 6 1 4 ⟨87, [e9a22, e9a9 g, sp 5 5, sp 7 7, sI 10 n, sI 11 v58, sp 12 12, e9a5 g, e9a11 g, sI 58 v58, e9a15], [e9a6 w, e9a1 g w, hB 12 [.pI ((g.2.2.2.getD (v58).toNat zqb).1), .pS ((g.2.2.2.getD (v58).toNat zqb).2)], e9a7 l30300, e9a0 g w]⟩ h fun h => nn (aw_seq (awd_begin [] (by kernel_rfl) ?_)))))))
         obtain ⟨o1, h⟩ := h
         refine qDO 8 1 [0, 1, 2, 3, 4, 5, 6, 7, 8, 9] [9, 8, 7, 6, 5, 4, 3, 2, 1, 0] ⟨87, [e9a22, e9a9 g, sp 5 5, sp 7 7, sI 10 n, sI 11 v58, e9a5 g, e9a11 g, sI 58 v58, sB 72 (decide ((g.2.2.2.getD (v58).toNat zqb).1 = ((g.1 + g.2.2.1) - g.1))), e9a15], [e9a6 w, e9a1 g w, e9a7 l30300, e9a0 g w]⟩ o1 (awd_done (by kernel_rfl) ?_)
         refine thenQ_n (withJoin (σ := Int × LK) (fun s => ⟨87, [sp 0 70400, e9a9 g, sp 5 5, sp 7 7, sI 10 s.1, e9a5 g, e9a11 g, sI 58 v58, e9a24], [e9a6 w, e9a1 g w, e9a3 g w, (70401, [], .dict (.pr tI t3) tI s.2)]⟩) (fun s => VC9_k4 v58 X1 s.1 s.2) (fun s h => ?_) (fun rest4 => ?_))
         ·obtain ⟨n2, l70401⟩ := s
          have h : VC9_k4 v58 X1 n2 l70401 := h
          unfold VC9_k4 at h
          exact blockQ_n (thenQ_n (aw_region (qA 2 0 1 ⟨87, [sp 0 70400, e9a9 g, sp 5 5, sp 7 7, sI 10 n2, e9a5 g, e9a11 g, sI 58 (v58 + (1 : Int)), e9a24], [e9a6 w, e9a1 g w, e9a3 g w, (70401, [], .dict (.pr tI t3) tI l70401)]⟩ h fun h => qW [.ren 70400 90400, .ren 70401 90401, .ren 90400 30301, .ren 90401 30300, .prune e9an0 [5, 7, 30300, 30301]] ⟨87, [e9a22, e9a9 g, sp 5 5, sp 7 7, sI 10 n2, e9a5 g, e9a11 g, sI 58 (v58 + (1 : Int)), e9a15], [e9a6 w, e9a1 g w, (30300, [], .dict (.pr tI t3) tI l70401), e9a0 g w]⟩ (awl_nil (thenQ_n ⟨(n2, (v58 + (1 : Int)), l70401), rfl, h⟩)))))
         ·refine qI h (fun h => ?_) fun h => ?_
          ·refine aw_region (qT 4 ⟨87, [e9a22, e9a9 g, sp 5 5, sp 7 7, e9a5 g, e9a11 g, sI 58 v58, sI 73 n, sp 74 30301, sI 75 v58, e9a23 w, e9a15], [e9a6 w, e9a1 g w, e9a7 l30300, e9a0 g w]⟩ (qW [.ren 30301 70400, .ren 30300 70401] ⟨87, [sp 0 70400, e9a9 g, sp 5 5, sp 7 7, e9a5 g, e9a11 g, sI 58 v58, sI 73 n, sp 74 70400, sI 75 v58, e9a23 w, e9a24], [e9a6 w, e9a1 g w, e9a21 l30300, e9a3 g w]⟩ (awl_lcall (σ := Int × LK) [70400, 70401] [70400] [.c (.ptr 70400 0), .c (.pI v58), .c (.pI (0 : Int)), .agg [.pI (0 : Int), .pI (w.length : Int)]] [] (fun ret77v => .v (.c (.pI ret77v.1))) (fun ret77v => [e9a3 g w, e9a13 ret77v]) (_) [e9a3 g w, e9a21 l30300] (fun ret77v => ⟨87, [sI 77 ret77v.1, sp 0 70400, e9a9 g, sp 5 5, sp 7 7, e9a5 g, e9a11 g, sI 58 v58, sI 73 n, sp 74 70400, sI 75 v58, e9a23 w, e9a24], [e9a3 g w, e9a13 ret77v, e9a6 w, e9a1 g w]⟩) rfl rfl (by kernel_rfl) rfl (by kernel_rfl) Try.call66 (by kernel_rfl) (by kernel_rfl) (by kernel_rfl) (fun _ _ => rfl) (fun _ => by kernel_rfl) (linkcr66 g.1 g.2.1 g.2.2.1 g.2.2.2 w v58 (0 : Int) (0 : Int) (w.length : Int) l30300 _ h) (fun ret77v h => ?_))))
           refine qL ⟨87, [sp 0 70400, e9a9 g, sp 5 5, sp 7 7, e9a5 g, e9a11 g, sI 58 v58, sI 73 n, sI 77 ret77v.1, e9a24], [e9a6 w, e9a1 g w, e9a3 g w, e9a13 ret77v]⟩ (qK 78 [.d tI, .d tI] (fun ret78v => ⟨87, [sp 0 70400, e9a9 g, sp 5 5, sp 7 7, e9a5 g, e9a11 g, sI 58 v58, sI 78 ret78v, e9a24], [e9a6 w, e9a1 g w, e9a3 g w, e9a13 ret77v]⟩) Try.call25 (link25 n ret77v.1 _ h) fun ret78v h => ?_)
           exact qT 1 ⟨87, [sp 0 70400, e9a9 g, sp 5 5, sp 7 7, sI 10 ret78v, e9a5 g, e9a11 g, sI 58 v58, e9a24], [e9a6 w, e9a1 g w, e9a3 g w, e9a13 ret77v]⟩ (awl_nil (rest4 (ret78v, ret77v.2) h))
          ·exact qV [.prune e9an0 [5, 7, 30300, 30301], .ren 30301 50301, .ren 30300 50300, .ren 50301 70400, .ren 50300 70401, .prune e9an0 [5, 7, 70400, 70401]] ⟨87, [sp 0 70400, e9a9 g, sp 5 5, sp 7 7, sI 10 n, e9a5 g, e9a11 g, sI 58 v58, e9a24], [e9a6 w, e9a1 g w, e9a3 g w, e9a21 l30300]⟩ (aw_skip (rest4 (n, l30300) h))
        ·exact qC ⟨87, [e9a22, sp 7 7, sI 10 n, e9a15], [e9a1 g w, e9a7 l30300, e9a0 g w]⟩ (aw_exit (thenQ_x (thenQ_x (blockQ_hit (rest3 (n, l30300) h)))))
abbrev e10_0 (tv : Lqa) := hB 1 [.p (.sl tqa) tv.1, .pI tv.2]
abbrev e10_1 (tv : Lqa) (ret16v : LI × Bool) (v27 v49 : Int) := sI 58 (((((tv.1.getD ((ret16v.1.getD (v27).toNat (0 : Int))).toNat zqa).2.2.2).getD (v49).toNat ([] : LI)).drop ((imin (1 : Int) ((((tv.1.getD ((ret16v.1.getD (v27).toNat (0 : Int))).toNat zqa).2.2.2).getD (v49).toNat ([] : LI)).length : Int))).toNat).length : Int)
abbrev e10_2 (tv : Lqa) (ret16v : LI × Bool) (v27 : Int) := s1 47 (.p (.sl (.sl tI)) ((tv.1.getD ((ret16v.1.getD (v27).toNat (0 : Int))).toNat zqa).2.2.2))
abbrev e10_3 (tv : Lqa) (ret16v : LI × Bool) (v27 v49 : Int) := s1 57 (.pS ((((tv.1.getD ((ret16v.1.getD (v27).toNat (0 : Int))).toNat zqa).2.2.2).getD (v49).toNat ([] : LI)).drop ((imin (1 : Int) ((((tv.1.getD ((ret16v.1.getD (v27).toNat (0 : Int))).toNat zqa).2.2.2).getD (v49).toNat ([] : LI)).length : Int))).toNat))
abbrev e10_4 (tv : Lqa) (ret16v : LI × Bool) (v27 : Int) := sI 48 (((tv.1.getD ((ret16v.1.getD (v27).toNat (0 : Int))).toNat zqa).2.2.2).length : Int)
abbrev e10_5 (ret16v : LI × Bool) (v27 : Int) := sI 8 (ret16v.1.getD (v27).toNat (0 : Int))
abbrev e10_6 (ret16v : LI × Bool) := sI 26 (ret16v.1.length : Int)
abbrev e10_7 (ret16v : LI × Bool) := s1 25 (.pS ret16v.1)
abbrev e10_8 := s1 6 (.own 24)
abbrev e10_9 (many3 : LI) := hA 24 2 tI many3
abbrev e10_10 (many : LI) := hA 24 2 tI many
-- coppicer/thicket.Count
def VC10_k1 (tv : Lqa) (K : Int × Int → Prop) (many : LI) : Prop :=
  (inIdx tv.2 many.length ∧ (((decide ((1099511627776 : Int) < (many.getD ((tv.2).toNat) (0 : Int)))) = true → K ((0 : Int), (1 : Int))) ∧ ((decide ((1099511627776 : Int) < (many.getD ((tv.2).toNat) (0 : Int)))) = false → (inIdx tv.2 many.length ∧ K ((many.getD ((tv.2).toNat) (0 : Int)), (0 : Int))))))
def VC10_k3 (v27 : Int) (X1 : Int × LI → Prop) (many3 : LI) : Prop :=
  (InR (v27 + (1 : Int)) ∧ X1 ((v27 + (1 : Int)), many3))
def VC10_k4 (ret16v : LI × Bool) (v27 v49 : Int) (many3 : LI) (X2 : Int × LI → Prop) (n : Int) : Prop :=
  (inIdx (ret16v.1.getD (v27).toNat (0 : Int)) many3.length ∧ VC25 (many3.getD (((ret16v.1.getD (v27).toNat (0 : Int))).toNat) (0 : Int)) n (fun (ret77v : Int) => (inIdx (ret16v.1.getD (v27).toNat (0 : Int)) many3.length ∧ (InR (v49 + (1 : Int)) ∧ X2 ((v49 + (1 : Int)), (many3.set (((ret16v.1.getD (v27).toNat (0 : Int))).toNat) ret77v))))))
def VC10_l3 (tv : Lqa) (ret16v : LI × Bool) (v27 v49 : Int) (many3 : LI) (X2 : Int × LI → Prop) (n v59 : Int) (X3 : Int × Int → Prop) : Prop :=
  (((decide (v59 < (((((tv.1.getD ((ret16v.1.getD (v27).toNat (0 : Int))).toNat ((0 : Int), ((0 : Int), ((0 : Int), ([] : LL))))).2.2.2).getD (v49).toNat ([] : LI)).drop ((imin (1 : Int) ((((tv.1.getD ((ret16v.1.getD (v27).toNat (0 : Int))).toNat ((0 : Int), ((0 : Int), ((0 : Int), ([] : LL))))).2.2.2).getD (v49).toNat ([] : LI)).length : Int))).toNat).length : Int))) = true → (inIdx v59 ((((tv.1.getD ((ret16v.1.getD (v27).toNat (0 : Int))).toNat ((0 : Int), ((0 : Int), ((0 : Int), ([] : LL))))).2.2.2).getD (v49).toNat ([] : LI)).drop ((imin (1 : Int) ((((tv.1.getD ((ret16v.1.getD (v27).toNat (0 : Int))).toNat ((0 : Int), ((0 : Int), ((0 : Int), ([] : LL))))).2.2.2).getD (v49).toNat ([] : LI)).length : Int))).toNat).length ∧ (inIdx (((((tv.1.getD ((ret16v.1.getD (v27).toNat (0 : Int))).toNat ((0 : Int), ((0 : Int), ((0 : Int), ([] : LL))))).2.2.2).getD (v49).toNat ([] : LI)).drop ((imin (1 : Int) ((((tv.1.getD ((ret16v.1.getD (v27).toNat (0 : Int))).toNat ((0 : Int), ((0 : Int), ((0 : Int), ([] : LL))))).2.2.2).getD (v49).toNat ([] : LI)).length : Int))).toNat).getD (v59).toNat (0 : Int)) many3.length ∧ VC24 n (many3.getD (((((((tv.1.getD ((ret16v.1.getD (v27).toNat (0 : Int))).toNat ((0 : Int), ((0 : Int), ((0 : Int), ([] : LL))))).2.2.2).getD (v49).toNat ([] : LI)).drop ((imin (1 : Int) ((((tv.1.getD ((ret16v.1.getD (v27).toNat (0 : Int))).toNat ((0 : Int), ((0 : Int), ((0 : Int), ([] : LL))))).2.2.2).getD (v49).toNat ([] : LI)).length : Int))).toNat).getD (v59).toNat (0 : Int))).toNat) (0 : Int)) (fun (ret68v : Int) => (InR (v59 + (1 : Int)) ∧ X3 (ret68v, (v59 + (1 : Int)))))))) ∧ ((decide (v59 < (((((tv.1.getD ((ret16v.1.getD (v27).toNat (0 : Int))).toNat ((0 : Int), ((0 : Int), ((0 : Int), ([] : LL))))).2.2.2).getD (v49).toNat ([] : LI)).drop ((imin (1 : Int) ((((tv.1.getD ((ret16v.1.getD (v27).toNat (0 : Int))).toNat ((0 : Int), ((0 : Int), ((0 : Int), ([] : LL))))).2.2.2).getD (v49).toNat ([] : LI)).length : Int))).toNat).length : Int))) = false → VC10_k4 ret16v v27 v49 many3 X2 n))
def VC10_l2 (tv : Lqa) (ret16v : LI × Bool) (v27 : Int) (X1 : Int × LI → Prop) (v49 : Int) (many3 : LI) (X2 : Int × LI → Prop) : Prop :=
  (((decide (v49 < (((tv.1.getD ((ret16v.1.getD (v27).toNat (0 : Int))).toNat ((0 : Int), ((0 : Int), ((0 : Int), ([] : LL))))).2.2.2).length : Int))) = true → (inIdx v49 ((tv.1.getD ((ret16v.1.getD (v27).toNat (0 : Int))).toNat ((0 : Int), ((0 : Int), ((0 : Int), ([] : LL))))).2.2.2).length ∧ ((0 ≤ (imin (1 : Int) ((((tv.1.getD ((ret16v.1.getD (v27).toNat (0 : Int))).toNat ((0 : Int), ((0 : Int), ((0 : Int), ([] : LL))))).2.2.2).getD (v49).toNat ([] : LI)).length : Int)) ∧ (imin (1 : Int) ((((tv.1.getD ((ret16v.1.getD (v27).toNat (0 : Int))).toNat ((0 : Int), ((0 : Int), ((0 : Int), ([] : LL))))).2.2.2).getD (v49).toNat ([] : LI)).length : Int)) ≤ ((((tv.1.getD ((ret16v.1.getD (v27).toNat (0 : Int))).toNat ((0 : Int), ((0 : Int), ((0 : Int), ([] : LL))))).2.2.2).getD (v49).toNat ([] : LI)).length : Int)) ∧ Loop (σ := Int × Int) (fun s X => VC10_l3 tv ret16v v27 v49 many3 X2 s.1 s.2 X) ((1 : Int), (0 : Int))))) ∧ ((decide (v49 < (((tv.1.getD ((ret16v.1.getD (v27).toNat (0 : Int))).toNat ((0 : Int), ((0 : Int), ((0 : Int), ([] : LL))))).2.2.2).length : Int))) = false → VC10_k3 v27 X1 many3))
def VC10_k2 (tv : Lqa) (ret16v : LI × Bool) (v27 : Int) (X1 : Int × LI → Prop) (many2 : LI) : Prop :=
  (inIdx (ret16v.1.getD (v27).toNat (0 : Int)) tv.1.length ∧ Loop (σ := Int × LI) (fun s X => VC10_l2 tv ret16v v27 X1 s.1 s.2 X) ((0 : Int), many2))
def VC10_l1 (tv : Lqa) (K : Int × Int → Prop) (ret16v : LI × Bool) (v27 : Int) (many : LI) (X1 : Int × LI → Prop) : Prop :=
  (((decide (v27 < (ret16v.1.length : Int))) = true → (inIdx v27 ret16v.1.length ∧ (inIdx (ret16v.1.getD (v27).toNat (0 : Int)) tv.1.length ∧ (((decide ((((tv.1.getD ((ret16v.1.getD (v27).toNat (0 : Int))).toNat ((0 : Int), ((0 : Int), ((0 : Int), ([] : LL))))).2.2.2).length : Int) = (0 : Int))) = true → (inIdx (ret16v.1.getD (v27).toNat (0 : Int)) many.length ∧ VC10_k2 tv ret16v v27 X1 (many.set (((ret16v.1.getD (v27).toNat (0 : Int))).toNat) (1 : Int)))) ∧ ((decide ((((tv.1.getD ((ret16v.1.getD (v27).toNat (0 : Int))).toNat ((0 : Int), ((0 : Int), ((0 : Int), ([] : LL))))).2.2.2).length : Int) = (0 : Int))) = false → VC10_k2 tv ret16v v27 X1 many))))) ∧ ((decide (v27 < (ret16v.1.length : Int))) = false → VC10_k1 tv K many))
def VC10 (tv : Lqa) (K : Int × Int → Prop) : Prop :=
  VC23 tv (fun (ret16v : LI × Bool) => (((!ret16v.2) = true → K ((0 : Int), (3 : Int))) ∧ ((!ret16v.2) = false → (room (tv.1.length : Int) ∧ Loop (σ := Int × LI) (fun s X => VC10_l1 tv K ret16v s.1 s.2 X) ((0 : Int), (List.replicate ((tv.1.length : Int)).toNat (0 : Int)))))))
abbrev dbx0 (tv : Lqa) (ret16v : LI × Bool) (v27 v49 : Int) := ((tv.1.getD ((ret16v.1.getD (v27).toNat (0 : Int))).toNat zqa).2.2.2).getD (v49).toNat ([] : LI)
abbrev dbx1 (ret16v : LI × Bool) (v27 : Int) := ret16v.1.getD (v27).toNat (0 : Int)
abbrev dbx2 (tv : Lqa) (ret16v : LI × Bool) (v27 v49 : Int) := (dbx0 tv ret16v v27 v49).drop ((imin (1 : Int) ((dbx0 tv ret16v v27 v49).length : Int))).toNat
theorem link10 (tv : Lqa) (K : Int × Int → Prop) (h : VC10 tv K) : ACalls Try.prog 10 [toV1 tqb tv] (fun res => ∃ y, res = (fun y => [toV1 tI y.1, toV1 tI y.2]) y ∧ K y) := by
 refine acalls_of_aw [tI, tI] [.t 2, .t 3] Try.func10 rfl rfl rfl ?_
 unfold VC10 at h
 refine sr (qT 3 ⟨92, [sp 1 1], [e10_0 tv]⟩ (nsr (qT 1 ⟨92, [sp 1 1, sA 15 [.p (.sl tqa) tv.1, .pI tv.2]], [e10_0 tv]⟩ (qK 16 [.d tqb] (fun ret16v => ⟨92, [sp 1 1, (16, [], .tup [.c (.pS ret16v.1), .c (.pB ret16v.2)])], [e10_0 tv]⟩) Try.call23 (link23 tv _ h) fun ret16v h => ?_))))
 refine qT 5 ⟨92, [sp 1 1, s1 4 (.pS ret16v.1), sB 5 ret16v.2], [e10_0 tv]⟩ (nn (aw_seq (qS 2 ⟨92, [sp 1 1, s1 4 (.pS ret16v.1), sB 20 (!ret16v.2)], [e10_0 tv]⟩ (qI h (fun h => ?_) fun h => ?_))))
 ·exact qS 2 ⟨92, [sI 2 (0 : Int), sI 3 (3 : Int)], []⟩ (aw_ret (thenQ_r (qE 2 h)))
 ·refine aw_skip (thenQ_n (sr (qA 5 3 1 ⟨92, [sp 1 1, s1 4 (.pS ret16v.1), e10_8], [e10_0 tv, hA 24 2 tI (List.replicate ((tv.1.length : Int)).toNat (0 : Int))]⟩ h fun h => nn (aw_seq (qS 3 ⟨92, [sp 1 1, e10_8, e10_7 ret16v, e10_6 ret16v, sI 27 (0 : Int)], [e10_0 tv, hA 24 2 tI (List.replicate ((tv.1.length : Int)).toNat (0 : Int))]⟩ (withJoin (σ := LI) (fun s => ⟨92, [sp 1 1, e10_8], [e10_0 tv, hA 24 2 tI s]⟩) (fun s => VC10_k1 tv K s) (fun many h => ?_) (fun rest1 => ?_)))))))
  ·have h : VC10_k1 tv K many := h
   unfold VC10_k1 at h
   refine thenQ_n (aw_seq (sr (qA 6 3 2 ⟨92, [sp 1 1, e10_8, sB 86 (decide ((1099511627776 : Int) < (many.getD ((tv.2).toNat) (0 : Int))))], [e10_0 tv, e10_10 many]⟩ h fun h => nn (qI h (fun h => ?_) fun h => ?_))))
   ·exact qS 2 ⟨92, [sI 2 (0 : Int), sI 3 (1 : Int)], []⟩ (aw_ret (thenQ_r (qE 2 h)))
   ·exact aw_skip (thenQ_n (sr (qA 7 3 3 ⟨92, [sI 2 (many.getD ((tv.2).toNat) (0 : Int)), sI 3 (0 : Int)], []⟩ h fun h => nn (aw_ret (qE 2 h)))))
  ·refine aw_block (aw_loop (σ := Int × LI) (fun s => ⟨92, [sp 1 1, e10_8, e10_7 ret16v, e10_6 ret16v, sI 27 s.1], [e10_0 tv, hA 24 2 tI s.2]⟩) (fun s X => VC10_l1 tv K ret16v s.1 s.2 X) (s0 := ((0 : Int), (List.replicate ((tv.1.length : Int)).toNat (0 : Int)))) (fun s X1 h => ?_) h)
   obtain ⟨v27, many⟩ := s
   have h : VC10_l1 tv K ret16v v27 many X1 := h
   unfold VC10_l1 at h
   refine qS 1 ⟨92, [sp 1 1, e10_8, e10_7 ret16v, e10_6 ret16v, sI 27 v27, sB 28 (decide (v27 < (ret16v.1.length : Int)))], [e10_0 tv, e10_10 many]⟩ (aw_seq (qI h (fun h => ?_) fun h => ?_))
   ·refine aw_skip (thenQ_n (aw_seq (aw_block (sr (qA 3 0 2 ⟨92, [sp 1 1, e10_8, e10_5 ret16v v27, e10_7 ret16v, e10_6 ret16v, sI 27 v27], [e10_0 tv, e10_10 many]⟩ h fun h => nn (aw_seq (sr (qA 8 3 4 ⟨92, [sp 1 1, e10_8, e10_5 ret16v v27, e10_7 ret16v, e10_6 ret16v, sI 27 v27, sB 38 (decide ((((tv.1.getD ((dbx1 ret16v v27)).toNat zqa).2.2.2).length : Int) = (0 : Int)))], [e10_0 tv, e10_10 many]⟩ h fun h => nn (withJoin (σ := LI) (fun s => ⟨92, [sp 1 1, e10_8, e10_5 ret16v v27, e10_7 ret16v, e10_6 ret16v, sI 27 v27], [e10_0 tv, hA 24 2 tI s]⟩) (fun s => VC10_k2 tv ret16v v27 X1 s) (fun many2 h => ?_) (fun rest4 => ?_))))))))))
    ·have h : VC10_k2 tv ret16v v27 X1 many2 := h
     unfold VC10_k2 at h
     refine thenQ_n (sr (qA 8 3 4 ⟨92, [sp 1 1, e10_8, e10_5 ret16v v27, e10_7 ret16v, e10_6 ret16v, sI 27 v27, e10_2 tv ret16v v27, e10_4 tv ret16v v27, sI 49 (0 : Int)], [e10_0 tv, hA 24 2 tI many2]⟩ h fun h => nn (withJoin (σ := LI) (fun s => ⟨92, [sp 1 1, e10_8, e10_7 ret16v, e10_6 ret16v, sI 27 v27], [e10_0 tv, hA 24 2 tI s]⟩) (fun s => VC10_k3 v27 X1 s) (fun many3 h => ?_) (fun rest2 => ?_))))
     ·have h : VC10_k3 v27 X1 many3 := h
      unfold VC10_k3 at h
      exact blockQ_n (thenQ_n (aw_region (qA 2 0 1 ⟨92, [sp 1 1, e10_8, e10_7 ret16v, e10_6 ret16v, sI 27 (v27 + (1 : Int))], [e10_0 tv, e10_9 many3]⟩ h fun h => awl_nil (thenQ_n ⟨((v27 + (1 : Int)), many3), rfl, h⟩))))
     ·refine aw_block (aw_loop (σ := Int × LI) (fun s => ⟨92, [sp 1 1, e10_8, e10_5 ret16v v27, e10_7 ret16v, e10_6 ret16v, sI 27 v27, e10_2 tv ret16v v27, e10_4 tv ret16v v27, sI 49 s.1], [e10_0 tv, hA 24 2 tI s.2]⟩) (fun s X => VC10_l2 tv ret16v v27 X1 s.1 s.2 X) (s0 := ((0 : Int), many2)) (fun s X2 h => ?_) h)
      obtain ⟨v49, many3⟩ := s
      have h : VC10_l2 tv ret16v v27 X1 v49 many3 X2 := h
      unfold VC10_l2 at h
      refine qS 1 ⟨92, [sp 1 1, e10_8, e10_5 ret16v v27, e10_7 ret16v, e10_6 ret16v, sI 27 v27, e10_2 tv ret16v v27, e10_4 tv ret16v v27, sI 49 v49, sB 50 (decide (v49 < (((tv.1.getD ((dbx1 ret16v v27)).toNat zqa).2.2.2).length : Int)))], [e10_0 tv, e10_9 many3]⟩ (aw_seq (qI h (fun h => ?_) fun h => ?_))
      ·refine aw_skip (thenQ_n (aw_seq (aw_block (sr (qA 3 0 2 ⟨92, [sp 1 1, e10_8, e10_5 ret16v v27, s1 10 (.pS (dbx0 tv ret16v v27 v49)), e10_7 ret16v, e10_6 ret16v, sI 27 v27, e10_2 tv ret16v v27, e10_4 tv ret16v v27, sI 49 v49], [e10_0 tv, e10_9 many3]⟩ h fun h => nsr (qT 1 ⟨92, [sp 1 1, e10_8, e10_5 ret16v v27, s1 10 (.pS (dbx0 tv ret16v v27 v49)), sI 11 (1 : Int), e10_7 ret16v, e10_6 ret16v, sI 27 v27, e10_2 tv ret16v v27, e10_4 tv ret16v v27, sI 49 v49], [e10_0 tv, e10_9 many3]⟩ (nn (aw_seq (sr (qA 7 4 2 ⟨92, [sp 1 1, e10_8, e10_5 ret16v v27, sI 11 (1 : Int), e10_7 ret16v, e10_6 ret16v, sI 27 v27, e10_2 tv ret16v v27, e10_4 tv ret16v v27, sI 49 v49, e10_3 tv ret16v v27 v49, e10_1 tv ret16v v27 v49, sI 59 (0 : Int)], [e10_0 tv, e10_9 many3]⟩ h fun h => nn (withJoin (σ := Int) (fun s => ⟨92, [sp 1 1, e10_8, e10_5 ret16v v27, sI 11 s, e10_7 ret16v, e10_6 ret16v, sI 27 v27, e10_2 tv ret16v v27, e10_4 tv ret16v v27, sI 49 v49], [e10_0 tv, e10_9 many3]⟩) (fun s => VC10_k4 ret16v v27 v49 many3 X2 s) (fun n h => ?_) (fun rest3 => ?_))))))))))))
       ·have h : VC10_k4 ret16v v27 v49 many3 X2 n := h
        unfold VC10_k4 at h
        refine thenQ_n (aw_region (qA 7 4 2 ⟨92, [sp 1 1, e10_8, e10_5 ret16v v27, e10_7 ret16v, e10_6 ret16v, sI 27 v27, e10_2 tv ret16v v27, e10_4 tv ret16v v27, sI 49 v49, s1 70 (.own 24), sI 71 (dbx1 ret16v v27), sI 75 (many3.getD (((dbx1 ret16v v27)).toNat) (0 : Int)), sI 76 n], [e10_0 tv, e10_9 many3]⟩ h fun h => qK 77 [.d tI, .d tI] (fun ret77v => ⟨92, [sp 1 1, e10_8, e10_5 ret16v v27, e10_7 ret16v, e10_6 ret16v, sI 27 v27, e10_2 tv ret16v v27, e10_4 tv ret16v v27, sI 49 v49, s1 70 (.own 24), sI 71 (dbx1 ret16v v27), sI 77 ret77v], [e10_0 tv, e10_9 many3]⟩) Try.call25 (link25 (many3.getD (((dbx1 ret16v v27)).toNat) (0 : Int)) n _ h) fun ret77v h => ?_))
        exact qA 2 0 1 ⟨92, [sp 1 1, e10_8, e10_5 ret16v v27, e10_7 ret16v, e10_6 ret16v, sI 27 v27, e10_2 tv ret16v v27, e10_4 tv ret16v v27, sI 49 v49], [e10_0 tv, hA 24 2 tI (many3.set (((dbx1 ret16v v27)).toNat) ret77v)]⟩ h fun h => awl_nil (blockQ_n (thenQ_n (aw_region (qA 2 0 1 ⟨92, [sp 1 1, e10_8, e10_5 ret16v v27, e10_7 ret16v, e10_6 ret16v, sI 27 v27, e10_2 tv ret16v v27, e10_4 tv ret16v v27, sI 49 (v49 + (1 : Int))], [e10_0 tv, hA 24 2 tI (many3.set (((dbx1 ret16v v27)).toNat) ret77v)]⟩ h fun h => awl_nil (thenQ_n ⟨((v49 + (1 : Int)), (many3.set (((dbx1 ret16v v27)).toNat) ret77v)), rfl, h⟩)))))
       ·refine aw_block (aw_loop (σ := Int × Int) (fun s => ⟨92, [sp 1 1, e10_8, e10_5 ret16v v27, sI 11 s.1, e10_7 ret16v, e10_6 ret16v, sI 27 v27, e10_2 tv ret16v v27, e10_4 tv ret16v v27, sI 49 v49, e10_3 tv ret16v v27 v49, e10_1 tv ret16v v27 v49, sI 59 s.2], [e10_0 tv, e10_9 many3]⟩) (fun s X => VC10_l3 tv ret16v v27 v49 many3 X2 s.1 s.2 X) (s0 := ((1 : Int), (0 : Int))) (fun s X3 h => ?_) h)
        obtain ⟨n, v59⟩ := s
        have h : VC10_l3 tv ret16v v27 v49 many3 X2 n v59 X3 := h
        unfold VC10_l3 at h
        refine qS 1 ⟨92, [sp 1 1, e10_8, e10_5 ret16v v27, sI 11 n, e10_7 ret16v, e10_6 ret16v, sI 27 v27, e10_2 tv ret16v v27, e10_4 tv ret16v v27, sI 49 v49, e10_3 tv ret16v v27 v49, e10_1 tv ret16v v27 v49, sI 59 v59, sB 60 (decide (v59 < ((dbx2 tv ret16v v27 v49).length : Int)))], [e10_0 tv, e10_9 many3]⟩ (aw_seq (qI h (fun h => ?_) fun h => ?_))
        ·refine aw_skip (thenQ_n (aw_seq (aw_block (sr (qA 3 0 2 ⟨92, [sp 1 1, e10_8, e10_5 ret16v v27, sI 11 n, sI 13 ((dbx2 tv ret16v v27 v49).getD (v59).toNat (0 : Int)), e10_7 ret16v, e10_6 ret16v, sI 27 v27, e10_2 tv ret16v v27, e10_4 tv ret16v v27, sI 49 v49, e10_3 tv ret16v v27 v49, e10_1 tv ret16v v27 v49, sI 59 v59], [e10_0 tv, e10_9 many3]⟩ h fun h => nn (aw_region (qA 5 3 1 ⟨92, [sp 1 1, e10_8, e10_5 ret16v v27, e10_7 ret16v, e10_6 ret16v, sI 27 v27, e10_2 tv ret16v v27, e10_4 tv ret16v v27, sI 49 v49, e10_3 tv ret16v v27 v49, e10_1 tv ret16v v27 v49, sI 59 v59, sI 63 n, sI 67 (many3.getD ((((dbx2 tv ret16v v27 v49).getD (v59).toNat (0 : Int))).toNat) (0 : Int))], [e10_0 tv, e10_9 many3]⟩ h fun h => qK 68 [.d tI, .d tI] (fun ret68v => ⟨92, [sp 1 1, e10_8, e10_5 ret16v v27, e10_7 ret16v, e10_6 ret16v, sI 27 v27, e10_2 tv ret16v v27, e10_4 tv ret16v v27, sI 49 v49, e10_3 tv ret16v v27 v49, e10_1 tv ret16v v27 v49, sI 59 v59, sI 68 ret68v], [e10_0 tv, e10_9 many3]⟩) Try.call24 (link24 n (many3.getD ((((dbx2 tv ret16v v27 v49).getD (v59).toNat (0 : Int))).toNat) (0 : Int)) _ h) fun ret68v h => ?_)))))))
         exact qT 1 ⟨92, [sp 1 1, e10_8, e10_5 ret16v v27, sI 11 ret68v, e10_7 ret16v, e10_6 ret16v, sI 27 v27, e10_2 tv ret16v v27, e10_4 tv ret16v v27, sI 49 v49, e10_3 tv ret16v v27 v49, e10_1 tv ret16v v27 v49, sI 59 v59], [e10_0 tv, e10_9 many3]⟩ (awl_nil (blockQ_n (thenQ_n (aw_region (qA 2 0 1 ⟨92, [sp 1 1, e10_8, e10_5 ret16v v27, sI 11 ret68v, e10_7 ret16v, e10_6 ret16v, sI 27 v27, e10_2 tv ret16v v27, e10_4 tv ret16v v27, sI 49 v49, e10_3 tv ret16v v27 v49, e10_1 tv ret16v v27 v49, sI 59 (v59 + (1 : Int))], [e10_0 tv, e10_9 many3]⟩ h fun h => awl_nil (thenQ_n ⟨(ret68v, (v59 + (1 : Int))), rfl, h⟩))))))
        ·exact qC ⟨92, [sp 1 1, e10_8, e10_5 ret16v v27, sI 11 n, e10_7 ret16v, e10_6 ret16v, sI 27 v27, e10_2 tv ret16v v27, e10_4 tv ret16v v27, sI 49 v49], [e10_0 tv, e10_9 many3]⟩ (aw_exit (thenQ_x (thenQ_x (blockQ_hit (rest3 n h)))))
      ·exact qC ⟨92, [sp 1 1, e10_8, e10_7 ret16v, e10_6 ret16v, sI 27 v27], [e10_0 tv, e10_9 many3]⟩ (aw_exit (thenQ_x (thenQ_x (blockQ_hit (rest2 many3 h)))))
    ·refine qI h (fun h => ?_) fun h => ?_
     ·exact aw_region (qA 4 2 1 ⟨92, [sp 1 1, e10_8, e10_5 ret16v v27, e10_7 ret16v, e10_6 ret16v, sI 27 v27], [e10_0 tv, hA 24 2 tI (many.set (((dbx1 ret16v v27)).toNat) (1 : Int))]⟩ h fun h => awl_nil (rest4 (many.set (((dbx1 ret16v v27)).toNat) (1 : Int)) h))
     ·exact qC ⟨92, [sp 1 1, e10_8, e10_5 ret16v v27, e10_7 ret16v, e10_6 ret16v, sI 27 v27], [e10_0 tv, e10_10 many]⟩ (aw_skip (rest4 many h))
   ·exact qC ⟨92, [sp 1 1, e10_8], [e10_0 tv, e10_10 many]⟩ (aw_exit (thenQ_x (thenQ_x (blockQ_hit (rest1 many h)))))
abbrev e5_0 (ret22v : Lqa × Int) := hB 7 [.p (.sl tqa) ret22v.1.1, .pI ret22v.1.2]
abbrev e5_1 (ret59v : Lqa × Int) := hB 12 [.p (.sl tqa) ret59v.1.1, .pI ret59v.1.2]
abbrev e5_2 (g : TG) := hB 3 [.pI g.1, .pI g.2.1, .pI g.2.2.1, .p (.sl tR) g.2.2.2]
abbrev e5_3 (g : TG) (k : Int) := hA 74 39 tR ((([] : List (Int × LI)) ++ (g.2.2.2.take ((k % (g.2.2.2.length : Int))).toNat)) ++ (g.2.2.2.drop (((k % (g.2.2.2.length : Int)) + (1 : Int))).toNat))
abbrev e5_4 (g : TG) := hB 14 [.pI g.1, .pI g.2.1, .pI g.2.2.1, .p (.sl tR) g.2.2.2]
abbrev e5_5 (g : TG) (k : Int) := s1 73 (.p (.sl tR) (g.2.2.2.drop (((k % (g.2.2.2.length : Int)) + (1 : Int))).toNat))
abbrev e5_6 (w : LI) := s1 1 (.pS w)
abbrev e5_7 (g : TG) (k : Int) := s1 67 (.p (.sl tR) (g.2.2.2.take ((k % (g.2.2.2.length : Int))).toNat))
abbrev e5_8 (k : Int) (g : TG) := sI 11 (k % (g.2.2.2.length : Int))
abbrev e5_9 := sp 7 7
abbrev e5_10 := sp 12 12
-- coppicer/coppicerkeep.ThicketCut
def VC5 (g : TG) (w : LI) (k : Int) (K : Bool → Prop) : Prop :=
  VC6 g w (fun (ret22v : Lqa × Int) => VC7 g w (fun (ret28v : Int × Bool) => (((((!ret28v.2) || (decide (ret28v.1 = (0 : Int)))) || (decide ((g.2.2.2.length : Int) = (0 : Int)))) = true → K (!decide (ret22v.2 = (0 : Int)))) ∧ ((((!ret28v.2) || (decide (ret28v.1 = (0 : Int)))) || (decide ((g.2.2.2.length : Int) = (0 : Int)))) = false → (((!decide (ret22v.2 = (0 : Int))) = true → K (decide (ret22v.2 = (1 : Int)))) ∧ ((!decide (ret22v.2 = (0 : Int))) = false → ((0 ≤ k ∧ 0 < (g.2.2.2.length : Int)) ∧ VC11 g ret22v.1 (k % (g.2.2.2.length : Int)) (fun (ret59v : Lqa × Int) => ((0 ≤ (k % (g.2.2.2.length : Int)) ∧ (k % (g.2.2.2.length : Int)) ≤ (g.2.2.2.length : Int)) ∧ InR ((k % (g.2.2.2.length : Int)) + (1 : Int)) ∧ (0 ≤ ((k % (g.2.2.2.length : Int)) + (1 : Int)) ∧ ((k % (g.2.2.2.length : Int)) + (1 : Int)) ≤ (g.2.2.2.length : Int)) ∧ (roomN (([] : List (Int × LI)).length + (g.2.2.2.take ((k % (g.2.2.2.length : Int))).toNat).length) ∧ (roomN ((([] : List (Int × LI)) ++ (g.2.2.2.take ((k % (g.2.2.2.length : Int))).toNat)).length + (g.2.2.2.drop (((k % (g.2.2.2.length : Int)) + (1 : Int))).toNat).length) ∧ VC9 (g.1, (g.2.1, (g.2.2.1, ((([] : List (Int × LI)) ++ (g.2.2.2.take ((k % (g.2.2.2.length : Int))).toNat)) ++ (g.2.2.2.drop (((k % (g.2.2.2.length : Int)) + (1 : Int))).toNat))))) w (fun (ret79v : Int × Int) => (((!decide (ret79v.2 = (0 : Int))) = true → K (decide (ret79v.2 = (1 : Int)))) ∧ ((!decide (ret79v.2 = (0 : Int))) = false → (((decide (ret79v.1 = (0 : Int))) = true → K ((decide (ret59v.2 = (5 : Int))) && (decide ((ret59v.1.1.length : Int) = (0 : Int))))) ∧ ((decide (ret79v.1 = (0 : Int))) = false → VC10 ret59v.1 (fun (ret98v : Int × Int) => K ((((decide (ret59v.2 = (0 : Int))) && (decide (ret98v.2 = (0 : Int)))) && (decide (ret98v.1 = ret79v.1))) && (decide ((ret59v.1.1.length : Int) ≤ (ret22v.1.1.length : Int)))))))))))))))))))))
abbrev dcx0 (k : Int) (g : TG) := k % (g.2.2.2.length : Int)
abbrev dcx1 (g : TG) (k : Int) := ([] : List (Int × LI)) ++ (g.2.2.2.take ((dcx0 k g)).toNat)
abbrev dcx2 (ret59v : Lqa × Int) (ret98v : Int × Int) := (decide (ret59v.2 = (0 : Int))) && (decide (ret98v.2 = (0 : Int)))
theorem link5 (g : TG) (w : LI) (k : Int) (K : Bool → Prop) (h : VC5 g w k K) : ACalls Try.prog 5 [toV1 tG g, toV1 (.sl tI) w, toV1 (.int .u8) k] (fun res => ∃ y, res = (fun y => [toV1 .bool y]) y ∧ K y) := by
 refine acalls_of_aw [.bool] [.t 6] Try.func5 rfl rfl rfl ?_
 unfold VC5 at h
 refine sr (qT 2 ⟨121, [e5_6 w, s1 2 (.pY k), sp 3 3], [e5_2 g]⟩ (nsr (qT 2 ⟨121, [e5_6 w, s1 2 (.pY k), sp 3 3, sA 20 [.pI g.1, .pI g.2.1, .pI g.2.2.1, .p (.sl tR) g.2.2.2], s1 21 (.pS w)], [e5_2 g]⟩ (qK 22 [.d tG, .d (.sl tI)] (fun ret22v => (⟨121, [e5_6 w, s1 2 (.pY k), sp 3 3, (22, [], .tup [.agg [.p (.sl tqa) ret22v.1.1, .pI ret22v.1.2], .c (.pI ret22v.2)])], [e5_2 g]⟩ : St)) Try.call6 (link6 g w _ h) fun ret22v h => ?_))))
 refine qT 6 ⟨121, [e5_6 w, s1 2 (.pY k), sp 3 3, e5_9, sI 8 ret22v.2], [e5_2 g, e5_0 ret22v]⟩ (nsr (qT 2 ⟨121, [e5_6 w, s1 2 (.pY k), sp 3 3, e5_9, sI 8 ret22v.2, sA 26 [.pI g.1, .pI g.2.1, .pI g.2.2.1, .p (.sl tR) g.2.2.2], s1 27 (.pS w)], [e5_2 g, e5_0 ret22v]⟩ (qK 28 [.d tG, .d (.sl tI)] (fun ret28v => ⟨121, [e5_6 w, s1 2 (.pY k), sp 3 3, e5_9, sI 8 ret22v.2, (28, [], .tup [.c (.pI ret28v.1), .c (.pB ret28v.2)])], [e5_2 g, e5_0 ret22v]⟩) Try.call7 (link7 g w _ h) fun ret28v h => ?_)))
 refine qT 5 ⟨121, [e5_6 w, s1 2 (.pY k), sp 3 3, e5_9, sI 8 ret22v.2, sI 9 ret28v.1, sB 10 ret28v.2], [e5_2 g, e5_0 ret22v]⟩ (nn (aw_seq (sr (qR 12 ⟨121, [e5_6 w, s1 2 (.pY k), sp 3 3, e5_9, sI 8 ret22v.2, sB 42 (((!ret28v.2) || (decide (ret28v.1 = (0 : Int)))) || (decide ((g.2.2.2.length : Int) = (0 : Int))))], [e5_2 g, e5_0 ret22v]⟩ (ob := Ts 3 (Ti 2 ((!ret28v.2) = false → True) (Ts 2 (Ti 4 (((!ret28v.2) || (decide (ret28v.1 = (0 : Int)))) = false → True) (Ts 1 True))))) (tsI 3 (tiI 2 (fun _ => trivial) (tsI 2 (tiI 4 (fun _ => trivial) (tsI 1 trivial))))) ?_))))
 refine nn (qI h (fun h => ?_) fun h => ?_)
 ·exact qS 3 ⟨121, [sB 6 (!decide (ret22v.2 = (0 : Int)))], []⟩ (aw_ret (thenQ_r (qE 1 h)))
 ·refine aw_skip (thenQ_n (aw_seq (qS 2 ⟨121, [e5_6 w, s1 2 (.pY k), sp 3 3, e5_9, sI 8 ret22v.2, sB 46 (!decide (ret22v.2 = (0 : Int)))], [e5_2 g, e5_0 ret22v]⟩ (qI h (fun h => ?_) fun h => ?_))))
  ·exact qS 3 ⟨121, [sB 6 (decide (ret22v.2 = (1 : Int)))], []⟩ (aw_ret (thenQ_r (qE 1 h)))
  ·refine aw_skip (thenQ_n (sr (qA 7 5 1 ⟨121, [e5_6 w, sp 3 3, e5_9, e5_8 k g], [e5_2 g, e5_0 ret22v]⟩ h fun h => nsr (qT 3 ⟨121, [e5_6 w, sp 3 3, e5_9, e5_8 k g, sA 56 [.pI g.1, .pI g.2.1, .pI g.2.2.1, .p (.sl tR) g.2.2.2], sA 57 [.p (.sl tqa) ret22v.1.1, .pI ret22v.1.2], sI 58 (dcx0 k g)], [e5_2 g, e5_0 ret22v]⟩ (qK 59 [.d tG, .d tqb, .d tI] (fun ret59v => (⟨121, [e5_6 w, sp 3 3, e5_9, e5_8 k g, (59, [], .tup [.agg [.p (.sl tqa) ret59v.1.1, .pI ret59v.1.2], .c (.pI ret59v.2)])], [e5_2 g, e5_0 ret22v]⟩ : St)) Try.call11 (link11 g ret22v.1 (dcx0 k g) _ h) fun ret59v h => ?_)))))
   refine qT 6 ⟨121, [e5_6 w, sp 3 3, e5_9, e5_8 k g, e5_10, sI 13 ret59v.2], [e5_2 g, e5_0 ret22v, e5_1 ret59v]⟩ (nsr (qT 3 ⟨121, [e5_6 w, sp 3 3, e5_9, e5_8 k g, e5_10, sI 13 ret59v.2, sp 14 14], [e5_2 g, e5_0 ret22v, e5_1 ret59v, e5_4 g]⟩ (nn (aw_seq (awd_begin [14, 63, 68] (by kernel_rfl) ?_)))))
   obtain ⟨o1, o2, o3, h⟩ := h
   refine qD [1, 2, 3, 4, 6, 7, 8, 9, 10] [10, 9, 8, 7, 6, 4, 3, 2, 1] ⟨121, [e5_6 w, e5_9, e5_10, sI 13 ret59v.2, sp 14 14, e5_7 g k, e5_5 g k], [e5_0 ret22v, e5_1 ret59v, e5_4 g]⟩ (ob := Ts 3 ((0 ≤ (dcx0 k g) ∧ (dcx0 k g) ≤ (g.2.2.2.length : Int)) ∧ Ts 3 (InR ((dcx0 k g) + (1 : Int)) ∧ (0 ≤ ((dcx0 k g) + (1 : Int)) ∧ ((dcx0 k g) + (1 : Int)) ≤ (g.2.2.2.length : Int)) ∧ True))) (tsI 3 (⟨o1, tsI 3 (⟨o2, ⟨o3, trivial⟩⟩)⟩)) ?_
   refine awd_one (i := 0) (by kernel_rfl) ?_
   refine dsq (ob := True) (st' := ⟨121, [e5_6 w, e5_9, e5_10, sI 13 ret59v.2, sp 14 14, s1 63 (.own 63), e5_7 g k, e5_5 g k], [e5_0 ret22v, e5_1 ret59v, e5_4 g, hA 63 39 tR ([] : List (Int × LI))]⟩) rfl (by kernel_rfl) trivial ?_
   refine awd_one (i := 5) (by kernel_rfl) ?_
   obtain ⟨o1, h⟩ := h
   refine dsq (ob := roomN (([] : List (Int × LI)).length + (g.2.2.2.take ((dcx0 k g)).toNat).length)) (st' := ⟨121, [e5_6 w, e5_9, e5_10, sI 13 ret59v.2, sp 14 14, s1 68 (.own 68), e5_5 g k], [e5_0 ret22v, e5_1 ret59v, e5_4 g, hA 68 39 tR (dcx1 g k)]⟩) rfl (by kernel_rfl) o1 ?_
   refine awd_one (i := 11) (by kernel_rfl) ?_
   obtain ⟨o1, h⟩ := h
   refine dsq (ob := roomN ((dcx1 g k).length + (g.2.2.2.drop (((dcx0 k g) + (1 : Int))).toNat).length)) (st' := ⟨121, [e5_6 w, e5_9, e5_10, sI 13 ret59v.2, sp 14 14, s1 74 (.own 74)], [e5_0 ret22v, e5_1 ret59v, e5_4 g, e5_3 g k]⟩) rfl (by kernel_rfl) o1 ?_
   refine qDT 1 [12] [12, 11, 5, 0, 10, 9, 8, 7, 6, 4, 3, 2, 1] ⟨121, [e5_6 w, e5_9, e5_10, sI 13 ret59v.2, sp 14 14, s1 74 (.own 74), s1 75 (.ptr 14 3)], [e5_0 ret22v, e5_1 ret59v, e5_4 g, e5_3 g k]⟩ (awd_one (i := 13) (by kernel_rfl) ?_)
   refine dsq (ob := True) (st' := ⟨121, [e5_6 w, e5_9, e5_10, sI 13 ret59v.2, sp 14 14], [e5_0 ret22v, e5_1 ret59v, hB 14 [.pI g.1, .pI g.2.1, .pI g.2.2.1, .own 74], e5_3 g k]⟩) rfl (by kernel_rfl) trivial ?_
   refine awd_done (by kernel_rfl) ?_
   refine thenQ_n (sr (qT 2 ⟨121, [e5_9, e5_10, sI 13 ret59v.2, sA 77 [.pI g.1, .pI g.2.1, .pI g.2.2.1, .own 74], s1 78 (.pS w)], [e5_0 ret22v, e5_1 ret59v, e5_3 g k]⟩ (awl_callk (p := []) (l := [toV1 tG (g.1, (g.2.1, (g.2.2.1, ((dcx1 g k) ++ (g.2.2.2.drop (((dcx0 k g) + (1 : Int))).toNat))))), toV1 (.sl tI) w]) (cl := []) true [.d tG, .d (.sl tI)] [7, 12, 13, 79] [7, 12] (fun (ret79v : Int × Int) => (((!decide (ret79v.2 = (0 : Int))) = true → K (decide (ret79v.2 = (1 : Int)))) ∧ ((!decide (ret79v.2 = (0 : Int))) = false → (((decide (ret79v.1 = (0 : Int))) = true → K ((decide (ret59v.2 = (5 : Int))) && (decide ((ret59v.1.1.length : Int) = (0 : Int))))) ∧ ((decide (ret79v.1 = (0 : Int))) = false → VC10 ret59v.1 (fun (ret98v : Int × Int) => K (((dcx2 ret59v ret98v) && (decide (ret98v.1 = ret79v.1))) && (decide ((ret59v.1.1.length : Int) ≤ (ret22v.1.1.length : Int)))))))))) (fun ret79v => [toV1 tI ret79v.1, toV1 tI ret79v.2]) (fun ret79v => ⟨121, [e5_9, e5_10, sI 13 ret59v.2, (79, [], .tup [.c (.pI ret79v.1), .c (.pI ret79v.2)])], [e5_0 ret22v, e5_1 ret59v]⟩) (by kernel_rfl) rfl (by kernel_rfl) rfl (by kernel_rfl) Try.call9 (by kernel_rfl) (fun ret79v => by kernel_rfl) (fun _ _ => rfl) (fun hg => link9 (g.1, (g.2.1, (g.2.2.1, ((dcx1 g k) ++ (g.2.2.2.drop (((dcx0 k g) + (1 : Int))).toNat))))) w _ h) (fun hg => noF hg) (fun ret79v h => ?_))))
   refine qT 5 ⟨121, [e5_9, e5_10, sI 13 ret59v.2, sI 15 ret79v.1, sI 16 ret79v.2], [e5_0 ret22v, e5_1 ret59v]⟩ (nn (aw_seq (qS 2 ⟨121, [e5_9, e5_10, sI 13 ret59v.2, sI 15 ret79v.1, sI 16 ret79v.2, sB 83 (!decide (ret79v.2 = (0 : Int)))], [e5_0 ret22v, e5_1 ret59v]⟩ (qI h (fun h => ?_) fun h => ?_))))
   ·exact qS 3 ⟨121, [sB 6 (decide (ret79v.2 = (1 : Int)))], []⟩ (aw_ret (thenQ_r (qE 1 h)))
   ·refine aw_skip (thenQ_n (aw_seq (qS 2 ⟨121, [e5_9, e5_10, sI 13 ret59v.2, sI 15 ret79v.1, sB 87 (decide (ret79v.1 = (0 : Int)))], [e5_0 ret22v, e5_1 ret59v]⟩ (qI h (fun h => ?_) fun h => ?_))))
    ·refine sr (qR 9 ⟨121, [sB 6 ((decide (ret59v.2 = (5 : Int))) && (decide ((ret59v.1.1.length : Int) = (0 : Int))))], []⟩ (ob := Ts 3 (Ti 4 ((decide (ret59v.2 = (5 : Int))) = true → True) (Ts 2 True))) (tsI 3 (tiI 4 (fun _ => trivial) (tsI 2 trivial))) ?_)
     exact nn (aw_ret (thenQ_r (qE 1 h)))
    ·refine aw_skip (thenQ_n (sr (qT 1 ⟨121, [e5_9, e5_10, sI 13 ret59v.2, sI 15 ret79v.1, sA 97 [.p (.sl tqa) ret59v.1.1, .pI ret59v.1.2]], [e5_0 ret22v, e5_1 ret59v]⟩ (qK 98 [.d tqb] (fun ret98v => ⟨121, [e5_9, e5_10, sI 13 ret59v.2, sI 15 ret79v.1, (98, [], .tup [.c (.pI ret98v.1), .c (.pI ret98v.2)])], [e5_0 ret22v, e5_1 ret59v]⟩) Try.call10 (link10 ret59v.1 _ h) fun ret98v h => ?_))))
     refine qT 5 ⟨121, [e5_9, e5_10, sI 13 ret59v.2, sI 15 ret79v.1, sI 17 ret98v.1, sI 18 ret98v.2], [e5_0 ret22v, e5_1 ret59v]⟩ (nsr (qR 21 ⟨121, [sB 6 (((dcx2 ret59v ret98v) && (decide (ret98v.1 = ret79v.1))) && (decide ((ret59v.1.1.length : Int) ≤ (ret22v.1.1.length : Int))))], []⟩ (ob := Ts 3 (Ti 2 ((decide (ret59v.2 = (0 : Int))) = true → True) (Ts 2 (Ti 3 ((dcx2 ret59v ret98v) = true → True) (Ts 2 (Ti 7 (((dcx2 ret59v ret98v) && (decide (ret98v.1 = ret79v.1))) = true → True) (Ts 2 True))))))) (tsI 3 (tiI 2 (fun _ => trivial) (tsI 2 (tiI 3 (fun _ => trivial) (tsI 2 (tiI 7 (fun _ => trivial) (tsI 2 trivial))))))) ?_))
     exact nn (aw_ret (qE 1 h))
end Dec
