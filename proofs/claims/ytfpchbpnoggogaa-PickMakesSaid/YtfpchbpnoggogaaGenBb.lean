/-
  Printed by dec2.py: of each function its plain demand, and that the demand gives the contract.
-/
import Derived.Test.YtfpchbpnoggogaaGenBa
set_option linter.unusedVariables false
set_option linter.unusedSimpArgs false
set_option maxRecDepth 100000
namespace Dec
open Go Go.RowKit Go.Proofs
abbrev e33c0 (c0 : Int) (c1 : Int) (c2 : Int) (c3 : LR) (c4 : LI) : Nat × Path × Con := hB 70100 [.pI c0, .pI c1, .pI c2, .p (.sl tR) c3, .pS c4, .own 70101]
abbrev e33c1 (c3 : LR) (v31 : Int) : Nat × Path × Con := hB 30005 [.pI ((c3.getD (v31).toNat ((0 : Int), ([] : LI))).1), .pS ((c3.getD (v31).toNat ((0 : Int), ([] : LI))).2)]
abbrev e33c2 (sign : Int) (over : Int) : Nat × Path × Con := hB 30001 [.pI sign, .pI over]
abbrev e33c3 (ret55v : (List (Int × Int))) : Nat × Path × AV := s1 12 (.p (.sl (.pr tI tI)) ret55v)
abbrev e33c4 : Nat × Path × Con := hB 30000 [.ptr 70100 0]
abbrev e33c5 (l70101 : LK) : Nat × Path × Con := (70101, [], .dict (.pr tI t3) tI l70101)
abbrev e33c6 (c3 : LR) (v31 : Int) : Nat × Path × AV := sI 71 (((c3.getD (v31).toNat ((0 : Int), ([] : LI))).2).length : Int)
abbrev e33c7 : Nat × Path × Con := hB 30003 [.own 30006]
abbrev e33c8 (c3 : LR) (v31 : Int) : Nat × Path × AV := s1 70 (.pS ((c3.getD (v31).toNat ((0 : Int), ([] : LI))).2))
abbrev e33c9 (v31 : Int) : Nat × Path × Con := hB 30004 [.pI v31]
abbrev e33c10 (c6 : LI) : Nat × Path × Con := hA 30006 3 tI c6
abbrev e33c11 (c3 : LR) (v31 : Int) (sign : Int) (over : Int) : Nat × Path × Con := hB 41011 [.cl 122 [.ad ⟨tI, (((c3.getD (v31).toNat ((0 : Int), ([] : LI))).2).length : Int)⟩, .pt 41000 0, .ad ⟨(.pr tI tI), (sign, over)⟩, .pt 41011 0]]
abbrev e33c12 (c3 : LR) : Nat × Path × AV := s1 29 (.p (.sl tR) c3)
abbrev e33c13 (c5 : LK) : Nat × Path × Con := (70101, [], .dict (.pr tI t3) tI c5)
abbrev e33c14 (l701012 : LK) : Nat × Path × Con := (70101, [], .dict (.pr tI t3) tI l701012)
abbrev e33c15 (c122 : LK) : Nat × Path × Con := (70101, [], .dict (.pr tI t3) tI c122)
abbrev e33c16 (c3 : LR) (v31 : Int) (v72 : Int) : Nat × Path × AV := sI 16 (((c3.getD (v31).toNat ((0 : Int), ([] : LI))).2).getD (v72).toNat (0 : Int))
abbrev e33c17 (ret60v : Int × LK) : Nat × Path × Con := (70101, [], .dict (.pr tI t3) tI ret60v.2)
abbrev e33c18 (ret98v : LI × LK) : Nat × Path × Con := (70101, [], .dict (.pr tI t3) tI ret98v.2)
abbrev e33c19 : Nat × Path × AV := sp 112 70100
abbrev e33c20 (c3 : LR) : Nat × Path × AV := s1 37 (.p (.sl tR) c3)
abbrev e33c21 : Nat × Path × AV := sp 106 30000
abbrev e33c22 : Nat × Path × AV := sp 107 30001
abbrev e33c23 : Nat × Path × AV := sp 108 30002
abbrev e33c24 : Nat × Path × AV := sp 109 30003
abbrev e33c25 : Nat × Path × AV := sp 110 30004
abbrev e33c26 : Nat × Path × AV := sp 111 30005
abbrev e33c27 (l6160 : LI) : Nat × Path × Con := hA 30006 3 tI l6160
abbrev e33c28 (ret87v : Int × LK) : Nat × Path × Con := (70101, [], .dict (.pr tI t3) tI ret87v.2)
abbrev e33c29 (c3 : LR) (v31 : Int) (sign : Int) (over : Int) : Nat × Path × AV := s1 6 (.cl 122 [.ad ⟨tI, (((c3.getD (v31).toNat ((0 : Int), ([] : LI))).2).length : Int)⟩, .pt 41000 0, .ad ⟨(.pr tI tI), (sign, over)⟩, .pt 41011 0])
abbrev e33c30 (c3 : LR) (v31 : Int) : Nat × Path × Con := hB 10 [.pI ((c3.getD (v31).toNat ((0 : Int), ([] : LI))).1), .pS ((c3.getD (v31).toNat ((0 : Int), ([] : LI))).2)]
abbrev e33c31 (c3 : LR) (v31 : Int) (sign : Int) (over : Int) : Nat × Path × Con := hB 4 [.cl 122 [.ad ⟨tI, (((c3.getD (v31).toNat ((0 : Int), ([] : LI))).2).length : Int)⟩, .pt 3 0, .ad ⟨(.pr tI tI), (sign, over)⟩, .pt 4 0]]
abbrev e33c32 : Nat × Path × AV := sp 8 30003
abbrev e33c33 : Nat × Path × AV := sp 10 30005
abbrev e33c34 (sign : Int) (over : Int) : Nat × Path × Con := hB 6 [.pI sign, .pI over]
abbrev e33c35 (ret7v : Bool × Int × LK × Int × LI) : Nat × Path × Con := (70101, [], .dict (.pr tI t3) tI ret7v.2.2.1)
abbrev e33c36 : Nat × Path × AV := sp 4 30000
abbrev e33c37 : Nat × Path × AV := sp 7 30002
abbrev e33c38 (c3 : LR) : Nat × Path × AV := sI 30 (c3.length : Int)
abbrev e33c39 : Nat × Path × AV := sp 106 70100
abbrev e33c40 (c3 : LR) (v31 : Int) : Nat × Path × AV := s1 1 (.ad tI (((c3.getD (v31).toNat ((0 : Int), ([] : LI))).2).length : Int))
abbrev e33c41 (c22 : Int) : Nat × Path × Con := hB 30002 [.pI c22]
abbrev e33c42 : Nat × Path × Con := hB 4 [.ptr 70100 0]
abbrev e33c43 (ret55v : (List (Int × Int))) (v72 : Int) : Nat × Path × AV := sA 94 [.pI ((ret55v.getD (v72).toNat ((0 : Int), (0 : Int))).1), .pI ((ret55v.getD (v72).toNat ((0 : Int), (0 : Int))).2)]
abbrev e33c44 (i2 : Int) : Nat × Path × Con := hB 30002 [.pI i2]
abbrev e33c45 (i3 : Int) : Nat × Path × Con := hB 30002 [.pI i3]
abbrev e33c46 (c3 : LR) : Nat × Path × AV := s1 35 (.p (.sl tR) c3)
abbrev e33c47 (out : LI) : Nat × Path × Con := hA 30300 3 tI out
abbrev e33c48 : Nat × Path × Con := hB 8 [.own 6160]
abbrev e33c49 (c3 : LR) : Nat × Path × AV := sI 38 (c3.length : Int)
abbrev e33c50 (l6160 : LI) : Nat × Path × Con := hA 6160 3 tI l6160
abbrev e33c51 : Nat × Path × AV := s1 90108 (.yv 37100)
abbrev e33c52 : Nat × Path × AV := s1 14 (.own 30300)
abbrev e33c53 : Nat × Path × AV := sp 9 30004
abbrev e33c54 : Nat × Path × AV := s1 14 (.own 68)
abbrev e33cn0 : List Nat := [37100, 30000, 30001, 30002, 30003, 30004, 30005, 30006, 70100, 70101]
abbrev e33cn1 : List Nat := [30000, 30001, 30002, 30003, 30004, 30005, 30006, 70100, 70101]
abbrev e33cn2 : List Nat := [37100, 30000, 30001, 30002, 30003, 30004, 30005, 70100]
abbrev e33cn3 : List Nat := [0, 1, 2, 3, 4, 5, 6, 7, 8, 9]
abbrev e33cn4 : List Nat := [9, 8, 7, 6, 5, 4, 3, 2, 1, 0]
-- coppicer/pick.nth
def VCc67_k1 (K : LI × LK → Prop) (l6160 : LI) (l70101 : LK) : Prop :=
  K (([] : List Int), l70101)
def VCc67_k2 (v31 : Int) (X1 : Int × Int × LI × LK → Prop) (i3 : Int) (l61602 : LI) (l701012 : LK) : Prop :=
  (InR (v31 + (1 : Int)) ∧ X1 ((v31 + (1 : Int)), i3, l61602, l701012))
def VCc67_k3 (Kf : (Int × Int × LI × LK) → Prop) (out : LI) (l30002 : Int) (l701012 : LK) : Prop :=
  Kf ((1 : Int), l30002, out, l701012)
def VCc67_l2 (c0 : Int) (c1 : Int) (c2 : Int) (c3 : LR) (c4 : LI) (R : Int → Int → Int → Int → LK → (LI × LK → Prop) → Prop) (v31 : Int) (Kf : (Int × Int × LI × LK) → Prop) (ret55v : (List (Int × Int))) (v72 : Int) (out : LI) (i3 : Int) (l701012 : LK) (X2 : Int × LI × Int × LK → Prop) : Prop :=
  (((decide (v72 < (((c3.getD (v31).toNat ((0 : Int), ([] : LI))).2).length : Int))) = true → (inIdx v72 ((c3.getD (v31).toNat ((0 : Int), ([] : LI))).2).length ∧ (InR (v72 + (1 : Int)) ∧ (0 ≤ (v72 + (1 : Int)) ∧ (v72 + (1 : Int)) ≤ (((c3.getD (v31).toNat ((0 : Int), ([] : LI))).2).length : Int)) ∧ InR (v72 + (1 : Int)) ∧ (0 ≤ (v72 + (1 : Int)) ∧ (v72 + (1 : Int)) ≤ (ret55v.length : Int)) ∧ VCcr98 c0 c1 c2 c3 c4 (((c3.getD (v31).toNat ((0 : Int), ([] : LI))).2).drop ((v72 + (1 : Int))).toNat) (ret55v.drop ((v72 + (1 : Int))).toNat) l701012 (fun (ret87v : Int × LK) => (inIdx v72 ret55v.length ∧ (0 ≤ i3 ∧ 0 < ret87v.1) ∧ R (((c3.getD (v31).toNat ((0 : Int), ([] : LI))).2).getD (v72).toNat (0 : Int)) ((ret55v.getD (v72).toNat ((0 : Int), (0 : Int))).1) ((ret55v.getD (v72).toNat ((0 : Int), (0 : Int))).2) (i3 / ret87v.1) ret87v.2 (fun (ret98v : LI × LK) => (roomN (out.length + ret98v.1.length) ∧ ((0 ≤ i3 ∧ 0 < ret87v.1) ∧ (InR (v72 + (1 : Int)) ∧ X2 ((v72 + (1 : Int)), (out ++ ret98v.1), (i3 % ret87v.1), ret98v.2)))))))))) ∧ ((decide (v72 < (((c3.getD (v31).toNat ((0 : Int), ([] : LI))).2).length : Int))) = false → VCc67_k3 Kf out i3 l701012))
def VCc67_y1 (c0 : Int) (c1 : Int) (c2 : Int) (c3 : LR) (c4 : LI) (R : Int → Int → Int → Int → LK → (LI × LK → Prop) → Prop) (sign : Int) (v31 : Int) (a51 : LI) (c22 : Int) (c6 : LI) (c122 : LK) (Kt : Int × LI × LK → Prop) (Kf : (Int × Int × LI × LK) → Prop) : Prop :=
  VC97 sign a51 (fun (ret55v : (List (Int × Int))) => VCcr98 c0 c1 c2 c3 c4 ((c3.getD (v31).toNat ((0 : Int), ([] : LI))).2) ret55v c122 (fun (ret60v : Int × LK) => (((decide (ret60v.1 ≤ c22)) = true → (InR (c22 - ret60v.1) ∧ Kt ((c22 - ret60v.1), c6, ret60v.2))) ∧ ((decide (ret60v.1 ≤ c22)) = false → Loop (σ := Int × LI × Int × LK) (fun s X => VCc67_l2 c0 c1 c2 c3 c4 R v31 Kf ret55v s.1 s.2.1 s.2.2.1 s.2.2.2 X) ((0 : Int), [v31], c22, ret60v.2)))))
def VCc67_l1 (c0 : Int) (c1 : Int) (c2 : Int) (c3 : LR) (c4 : LI) (R : Int → Int → Int → Int → LK → (LI × LK → Prop) → Prop) (c : Int) (sign : Int) (over : Int) (K : LI × LK → Prop) (v31 : Int) (i2 : Int) (l6160 : LI) (l70101 : LK) (X1 : Int × Int × LI × LK → Prop) : Prop :=
  (((decide (v31 < (c3.length : Int))) = true → (inIdx v31 c3.length ∧ (InR (c - c0) ∧ (((!decide ((c3.getD (v31).toNat ((0 : Int), ([] : LI))).1 = (c - c0))) = true → VCc67_k2 v31 X1 i2 l6160 l70101) ∧ ((!decide ((c3.getD (v31).toNat ((0 : Int), ([] : LI))).1 = (c - c0))) = false → VCcr122y5 (((c3.getD (v31).toNat ((0 : Int), ([] : LI))).2).length : Int) (sign, over) c0 c1 c2 c3 c4 sign over v31 ((c3.getD (v31).toNat ((0 : Int), ([] : LI))).1) ((c3.getD (v31).toNat ((0 : Int), ([] : LI))).2) (VCc67_y1 c0 c1 c2 c3 c4 R sign v31) ([] : List Int) (0 : Int) l70101 i2 l6160 (fun (ret7v : Bool × Int × LK × Int × LI) => ((decide (ret7v.2.1 = (0 : Int)) = true → VCc67_k2 v31 X1 ret7v.2.2.2.1 ret7v.2.2.2.2 ret7v.2.2.1) ∧ (decide (ret7v.2.1 = (0 : Int)) = false → (ret7v.2.1 = (1 : Int) ∧ K (ret7v.2.2.2.2, ret7v.2.2.1)))))))))) ∧ ((decide (v31 < (c3.length : Int))) = false → VCc67_k1 K l6160 l70101))
def VCc67 (c0 : Int) (c1 : Int) (c2 : Int) (c3 : LR) (c4 : LI) (R : Int → Int → Int → Int → LK → (LI × LK → Prop) → Prop) (c : Int) (sign : Int) (over : Int) (i : Int) (c5 : LK) (K : LI × LK → Prop) : Prop :=
  (((decide (c < c0)) = true → K (([] : List Int), c5)) ∧ ((decide (c < c0)) = false → Loop (σ := Int × Int × LI × LK) (fun s X => VCc67_l1 c0 c1 c2 c3 c4 R c sign over K s.1 s.2.1 s.2.2.1 s.2.2.2 X) ((0 : Int), i, ([] : List Int), c5)))
set_option maxHeartbeats 4000000 in
theorem linkc67 (c0 : Int) (c1 : Int) (c2 : Int) (c3 : LR) (c4 : LI) (R : Int → Int → Int → Int → LK → (LI × LK → Prop) → Prop) (hR : ∀ (c : Int) (sign : Int) (over : Int) (i : Int) (c5 : LK) (K : LI × LK → Prop), R c sign over i c5 K → LCalls Try.prog 67 [70100, 70101] [70100] [e33c0 c0 c1 c2 c3 c4, e33c13 c5] [.c (.ptr 70100 0), .c (.pI c), .agg [.pI sign, .pI over], .c (.pI i)] (fun av hp' => ∃ y : LI × LK, av = .v (.c (.pS y.1)) ∧ hp' = [e33c0 c0 c1 c2 c3 c4, (70101, [], .dict (.pr tI t3) tI y.2)] ∧ K y)) (c : Int) (sign : Int) (over : Int) (i : Int) (c5 : LK) (K : LI × LK → Prop) (h : VCc67 c0 c1 c2 c3 c4 R c sign over i c5 K) : LCalls Try.prog 67 [70100, 70101] [70100] [e33c0 c0 c1 c2 c3 c4, e33c13 c5] [.c (.ptr 70100 0), .c (.pI c), .agg [.pI sign, .pI over], .c (.pI i)] (fun av hp' => ∃ y : LI × LK, av = .v (.c (.pS y.1)) ∧ hp' = [e33c0 c0 c1 c2 c3 c4, (70101, [], .dict (.pr tI t3) tI y.2)] ∧ K y) := by
 refine lcalls_of_aw [70100, 70101] [70100] [.c 8 25] Try.func67 rfl rfl (by kernel_rfl) (by kernel_rfl) (by kernel_rfl) ?_
 refine aw_conv [] (st' := (⟨106, [sp 0 70100, sI 1 c, sA 2 [.pI sign, .pI over], sI 3 i, e33c39], [e33c0 c0 c1 c2 c3 c4, e33c13 c5]⟩ : St)) (by kernel_rfl) ?_
 unfold VCc67 at h
 refine srn 4 ⟨106, [sI 1 c, sp 4 4, sp 6 6, sp 7 7, sp 8 8, e33c39], [e33c42, e33c34 sign over, hB 7 [.pI i], hB 8 [.nils], e33c0 c0 c1 c2 c3 c4, e33c13 c5]⟩ (by kernel_rfl) rfl ?_
 refine aw_seq ?_
 refine srn 7 ⟨106, [sI 1 c, sp 4 4, sp 6 6, sp 7 7, sp 8 8, sB 24 (decide (c < c0)), e33c39], [e33c42, e33c34 sign over, hB 7 [.pI i], hB 8 [.nils], e33c0 c0 c1 c2 c3 c4, e33c13 c5]⟩ (by kernel_rfl) rfl ?_
 refine aw_cond (b := (decide (c < c0))) (by kernel_rfl) (fun hb => ?_) (fun hb => ?_)
 ·have h := h.1 hb
  refine srn 1 ⟨106, [sp 8 8, e33c39], [hB 8 [.nils], e33c0 c0 c1 c2 c3 c4, e33c13 c5]⟩ (by kernel_rfl) rfl ?_
  refine aw_conv [.nilPB 8 0 tI, .prune [8, 106] [70100, 70101, 8]] (st' := (⟨106, [sp 8 8, e33c39], [e33c0 c0 c1 c2 c3 c4, e33c13 c5, hB 8 [.pS ([] : List Int)]]⟩ : St)) (by kernel_rfl) ?_
  refine aw_ret ?_
  refine thenQ_r ?_
  exact lret_r (σ := LI × LK) (A := fun y => .v (.c (.pS y.1))) (H := fun y => [e33c0 c0 c1 c2 c3 c4, (70101, [], .dict (.pr tI t3) tI y.2)]) (ob := True) (([] : List Int), c5) (by kernel_rfl) trivial rfl (by kernel_rfl) (by kernel_rfl) (by kernel_rfl) h
 ·have h := h.2 hb
  refine aw_skip ?_
  refine thenQ_n ?_
  refine aw_seq ?_
  refine srn 7 ⟨106, [sI 1 c, sp 4 4, sp 6 6, sp 7 7, sp 8 8, e33c12 c3, e33c38 c3, sI 31 (0 : Int), e33c39], [e33c42, e33c34 sign over, hB 7 [.pI i], hB 8 [.nils], e33c0 c0 c1 c2 c3 c4, e33c13 c5]⟩ (by kernel_rfl) rfl ?_
  refine withJoin (σ := LI × LK) (fun s => (⟨106, [sp 8 8, e33c39], [e33c48, hA 6160 3 tI s.1, e33c0 c0 c1 c2 c3 c4, (70101, [], .dict (.pr tI t3) tI s.2)]⟩ : St)) (fun s => VCc67_k1 K s.1 s.2) (fun s h => ?_) (fun rest1 => ?_)
  ·obtain ⟨l6160, l70101⟩ := s
   have h : VCc67_k1 K l6160 l70101 := h
   unfold VCc67_k1 at h
   refine thenQ_n ?_
   refine srn 1 ⟨106, [sp 8 8, e33c39], [hB 8 [.nils], e33c0 c0 c1 c2 c3 c4, e33c5 l70101]⟩ (by kernel_rfl) rfl ?_
   refine aw_conv [.nilPB 8 0 tI, .prune [8, 106] [70100, 70101, 8]] (st' := (⟨106, [sp 8 8, e33c39], [e33c0 c0 c1 c2 c3 c4, e33c5 l70101, hB 8 [.pS ([] : List Int)]]⟩ : St)) (by kernel_rfl) ?_
   refine aw_ret ?_
   exact lret_r (σ := LI × LK) (A := fun y => .v (.c (.pS y.1))) (H := fun y => [e33c0 c0 c1 c2 c3 c4, (70101, [], .dict (.pr tI t3) tI y.2)]) (ob := True) (([] : List Int), l70101) (by kernel_rfl) trivial rfl (by kernel_rfl) (by kernel_rfl) (by kernel_rfl) h
  ·refine aw_block ?_
   refine aw_conv [.nilOwnB 8 0 6160 3 tI, .prune [1, 4, 6, 7, 8, 29, 30, 31, 106] [4, 6, 7, 8, 6160, 70100, 70101]] (st' := (⟨106, [sI 1 c, sp 4 4, sp 6 6, sp 7 7, sp 8 8, e33c12 c3, e33c38 c3, sI 31 (0 : Int), e33c39], [e33c42, e33c34 sign over, hB 7 [.pI i], e33c48, hA 6160 3 tI ([] : List Int), e33c0 c0 c1 c2 c3 c4, e33c13 c5]⟩ : St)) (by kernel_rfl) ?_
   refine aw_loop (σ := Int × Int × LI × LK) (fun s => (⟨106, [sI 1 c, sp 4 4, sp 6 6, sp 7 7, sp 8 8, e33c12 c3, e33c38 c3, sI 31 s.1, e33c39], [e33c42, e33c34 sign over, hB 7 [.pI s.2.1], e33c48, hA 6160 3 tI s.2.2.1, e33c0 c0 c1 c2 c3 c4, (70101, [], .dict (.pr tI t3) tI s.2.2.2)]⟩ : St)) (fun s X => VCc67_l1 c0 c1 c2 c3 c4 R c sign over K s.1 s.2.1 s.2.2.1 s.2.2.2 X) (s0 := ((0 : Int), i, ([] : List Int), c5)) (fun s X1 h => ?_) h
   obtain ⟨v31, i2, l6160, l70101⟩ := s
   have h : VCc67_l1 c0 c1 c2 c3 c4 R c sign over K v31 i2 l6160 l70101 X1 := h
   unfold VCc67_l1 at h
   refine srn 1 ⟨106, [sI 1 c, sp 4 4, sp 6 6, sp 7 7, sp 8 8, e33c12 c3, e33c38 c3, sI 31 v31, sB 32 (decide (v31 < (c3.length : Int))), e33c39], [e33c42, e33c34 sign over, hB 7 [.pI i2], e33c48, e33c50 l6160, e33c0 c0 c1 c2 c3 c4, e33c5 l70101]⟩ (by kernel_rfl) rfl ?_
   refine aw_seq ?_
   refine aw_cond (b := (decide (v31 < (c3.length : Int)))) (by kernel_rfl) (fun hb => ?_) (fun hb => ?_)
   ·have h := h.1 hb
    refine aw_skip ?_
    refine thenQ_n ?_
    refine aw_seq ?_
    refine withJoin (σ := Int × LI × LK) (fun s => (⟨106, [sI 1 c, sp 4 4, sp 6 6, sp 7 7, sp 8 8, e33c12 c3, e33c38 c3, sI 31 v31, e33c39], [e33c42, e33c34 sign over, hB 7 [.pI s.1], e33c48, hA 6160 3 tI s.2.1, e33c0 c0 c1 c2 c3 c4, (70101, [], .dict (.pr tI t3) tI s.2.2)]⟩ : St)) (fun s => VCc67_k2 v31 X1 s.1 s.2.1 s.2.2) (fun s h => ?_) (fun rest2 => ?_)
    ·obtain ⟨i3, l61602, l701012⟩ := s
     have h : VCc67_k2 v31 X1 i3 l61602 l701012 := h
     unfold VCc67_k2 at h
     refine thenQ_n ?_
     refine aw_region ?_
     obtain ⟨o1, h⟩ := h
     refine rq 2 (ob := (InR (v31 + (1 : Int)) ∧ Ts 1 True)) (st' := (⟨106, [sI 1 c, sp 4 4, sp 6 6, sp 7 7, sp 8 8, e33c12 c3, e33c38 c3, sI 31 (v31 + (1 : Int)), e33c39], [e33c42, e33c34 sign over, hB 7 [.pI i3], e33c48, hA 6160 3 tI l61602, e33c0 c0 c1 c2 c3 c4, e33c14 l701012]⟩ : St)) (by kernel_rfl) (⟨o1, tsI 1 trivial⟩) ?_
     refine awl_nil ?_
     exact thenQ_n ⟨((v31 + (1 : Int)), i3, l61602, l701012), rfl, h⟩
    ·refine aw_block ?_
     refine sr ?_
     obtain ⟨o1, h⟩ := h
     refine rq 7 (ob := (Ts 1 (inIdx v31 c3.length ∧ Ts 5 True))) (st' := (⟨106, [sI 1 c, sp 4 4, sp 6 6, sp 7 7, sp 8 8, sp 9 9, sp 10 10, e33c12 c3, e33c38 c3, sI 31 v31, e33c39], [e33c42, e33c34 sign over, hB 7 [.pI i2], e33c48, hB 9 [.pI v31], e33c30 c3 v31, e33c50 l6160, e33c0 c0 c1 c2 c3 c4, e33c5 l70101]⟩ : St)) (by kernel_rfl) (tsI 1 ⟨o1, tsI 5 trivial⟩) ?_
     refine nn ?_
     refine aw_seq ?_
     refine aw_seq ?_
     refine awd_begin [] (by kernel_rfl) ?_
     obtain ⟨o1, h⟩ := h
     refine drq (by kernel_rfl) e33cn3 (ob := (Ts 8 (InR (c - c0) ∧ Ts 1 True))) (done' := e33cn4) (st' := (⟨106, [sI 1 c, sp 4 4, sp 6 6, sp 7 7, sp 8 8, sp 9 9, sp 10 10, e33c12 c3, e33c38 c3, sI 31 v31, sB 45 (!decide ((c3.getD (v31).toNat ((0 : Int), ([] : LI))).1 = (c - c0))), e33c39], [e33c42, e33c34 sign over, hB 7 [.pI i2], e33c48, hB 9 [.pI v31], e33c30 c3 v31, e33c50 l6160, e33c0 c0 c1 c2 c3 c4, e33c5 l70101]⟩ : St)) (by kernel_rfl) (tsI 8 ⟨o1, tsI 1 trivial⟩) ?_
     refine awd_done (by kernel_rfl) ?_
     refine thenQ_n ?_
     refine aw_cond (b := (!decide ((c3.getD (v31).toNat ((0 : Int), ([] : LI))).1 = (c - c0)))) (by kernel_rfl) (fun hb => ?_) (fun hb => ?_)
     ·have h := h.1 hb
      refine cpr (st' := (⟨106, [sI 1 c, sp 4 4, sp 6 6, sp 7 7, sp 8 8, e33c12 c3, e33c38 c3, sI 31 v31, e33c39], [e33c42, e33c34 sign over, hB 7 [.pI i2], e33c48, e33c50 l6160, e33c0 c0 c1 c2 c3 c4, e33c5 l70101]⟩ : St)) (by kernel_rfl) ?_
      refine aw_exit ?_
      refine thenQ_x ?_
      refine blockQ_hit ?_
      exact rest2 (i2, l6160, l70101) h
     ·have h := h.2 hb
      refine aw_skip ?_
      refine thenQ_n ?_
      refine sr ?_
      refine rqT 4 ⟨106, [sI 1 c, sp 4 4, sp 6 6, sp 7 7, sp 8 8, sp 9 9, sp 10 10, e33c12 c3, e33c38 c3, sI 31 v31, sI 48 (((c3.getD (v31).toNat ((0 : Int), ([] : LI))).2).length : Int), sA 49 [.pI sign, .pI over], e33c39], [e33c42, e33c34 sign over, hB 7 [.pI i2], e33c48, hB 9 [.pI v31], e33c30 c3 v31, e33c50 l6160, e33c0 c0 c1 c2 c3 c4, e33c5 l70101]⟩ (by kernel_rfl) ?_
      refine awl_conv [.ren 4 30000, .ren 6 30001, .ren 7 30002, .ren 8 30003, .ren 9 30004, .ren 10 30005, .ren 6160 30006] (st' := (⟨106, [sI 1 c, e33c36, sp 6 30001, e33c37, e33c32, e33c53, e33c33, e33c12 c3, e33c38 c3, sI 31 v31, sI 48 (((c3.getD (v31).toNat ((0 : Int), ([] : LI))).2).length : Int), sA 49 [.pI sign, .pI over], e33c39], [e33c4, e33c2 sign over, e33c44 i2, e33c7, e33c9 v31, e33c1 c3 v31, e33c27 l6160, e33c0 c0 c1 c2 c3 c4, e33c5 l70101]⟩ : St)) (by kernel_rfl) ?_
      refine awl_inlr [.t 4] e33cn1 [.c (.pI (((c3.getD (v31).toNat ((0 : Int), ([] : LI))).2).length : Int)), .agg [.pI sign, .pI over]] [] rfl rfl (by kernel_rfl) rfl (by kernel_rfl) Try.call96 (by kernel_rfl) (by kernel_rfl) Try.func96 rfl rfl (by kernel_rfl) ?_
      refine aw_conv [] (st' := (⟨6, [sI 0 (((c3.getD (v31).toNat ((0 : Int), ([] : LI))).2).length : Int), sA 1 [.pI sign, .pI over], sI 7 c, sp 10 30000, sp 12 30001, sp 13 30002, sp 14 30003, sp 15 30004, sp 16 30005, e33c46 c3, sI 36 (c3.length : Int), sI 37 v31, sI 54 (((c3.getD (v31).toNat ((0 : Int), ([] : LI))).2).length : Int), sA 55 [.pI sign, .pI over], e33c19], [e33c4, e33c2 sign over, e33c44 i2, e33c7, e33c9 v31, e33c1 c3 v31, e33c27 l6160, e33c0 c0 c1 c2 c3 c4, e33c5 l70101]⟩ : St)) (by kernel_rfl) ?_
      refine sr ?_
      refine rqT 3 ⟨6, [sp 2 2, sp 3 3, sI 7 c, sp 10 30000, sp 12 30001, sp 13 30002, sp 14 30003, sp 15 30004, sp 16 30005, e33c46 c3, sI 36 (c3.length : Int), sI 37 v31, e33c19], [hB 2 [.pI (((c3.getD (v31).toNat ((0 : Int), ([] : LI))).2).length : Int)], hB 3 [.pI sign, .pI over], e33c4, e33c2 sign over, e33c44 i2, e33c7, e33c9 v31, e33c1 c3 v31, e33c27 l6160, e33c0 c0 c1 c2 c3 c4, e33c5 l70101]⟩ (by kernel_rfl) ?_
      refine nsr ?_
      refine awl_conv [.freezeB 2 tI, .freezeB 3 (.pr tI tI)] (st' := (⟨6, [s1 2 (.ad tI (((c3.getD (v31).toNat ((0 : Int), ([] : LI))).2).length : Int)), s1 3 (.ad (.pr tI tI) (sign, over)), sI 7 c, sp 10 30000, sp 12 30001, sp 13 30002, sp 14 30003, sp 15 30004, sp 16 30005, e33c46 c3, sI 36 (c3.length : Int), sI 37 v31, e33c19], [e33c4, e33c2 sign over, e33c44 i2, e33c7, e33c9 v31, e33c1 c3 v31, e33c27 l6160, e33c0 c0 c1 c2 c3 c4, e33c5 l70101]⟩ : St)) (by kernel_rfl) ?_
      refine rqT 2 ⟨6, [s1 4 (.fn 121 [(⟨tI, (((c3.getD (v31).toNat ((0 : Int), ([] : LI))).2).length : Int)⟩ : Dat), (⟨(.pr tI tI), (sign, over)⟩ : Dat)]), sI 7 c, sp 10 30000, sp 12 30001, sp 13 30002, sp 14 30003, sp 15 30004, sp 16 30005, e33c46 c3, sI 36 (c3.length : Int), sI 37 v31, e33c19], [e33c4, e33c2 sign over, e33c44 i2, e33c7, e33c9 v31, e33c1 c3 v31, e33c27 l6160, e33c0 c0 c1 c2 c3 c4, e33c5 l70101]⟩ (by kernel_rfl) ?_
      refine nn ?_
      refine aw_ret ?_
      refine inlR_r (ob := True) (.v (.c (.fn 121 [(⟨tI, (((c3.getD (v31).toNat ((0 : Int), ([] : LI))).2).length : Int)⟩ : Dat), (⟨(.pr tI tI), (sign, over)⟩ : Dat)]))) (by kernel_rfl) trivial rfl ?_
      refine lpr (st' := (⟨106, [sI 1 c, e33c36, sp 6 30001, e33c37, e33c32, e33c53, e33c33, e33c12 c3, e33c38 c3, sI 31 v31, s1 50 (.fn 121 [(⟨tI, (((c3.getD (v31).toNat ((0 : Int), ([] : LI))).2).length : Int)⟩ : Dat), (⟨(.pr tI tI), (sign, over)⟩ : Dat)]), e33c39], [e33c4, e33c2 sign over, e33c44 i2, e33c7, e33c9 v31, e33c1 c3 v31, e33c27 l6160, e33c0 c0 c1 c2 c3 c4, e33c5 l70101]⟩ : St)) (by kernel_rfl) ?_
      refine nn ?_
      refine aw_block ?_
      refine aw_cq ?_
      refine aw_rangeFunc 37100 90100 [4, 6, 7, 8, 9, 10] e33cn0 [.c (.ad tI (((c3.getD (v31).toNat ((0 : Int), ([] : LI))).2).length : Int)), .c (.ad (.pr tI tI) (sign, over))] (by kernel_rfl) Try.call121 Try.func121 rfl rfl (by kernel_rfl) (fun _ => by kernel_rfl) (fun lr1 hps has hbd hnn => ?_)
      have hY1 : ∀ (a51 : LI) (c22 : Int) (c6 : LI) (c122 : LK) (Kt : Int × LI × LK → Prop) (Kf : (Int × Int × LI × LK) → Prop) (h : VCc67_y1 c0 c1 c2 c3 c4 R sign v31 a51 c22 c6 c122 Kt Kf), LYCalls Try.prog 37100 e33cn0 e33cn2 [(37100, [], .lp lr1 (0 : Int) (VCc67_s1 30000 30001 30002 30003 30004 30005 c)), e33c4, e33c2 sign over, e33c41 c22, e33c7, e33c9 v31, e33c1 c3 v31, e33c10 c6, e33c0 c0 c1 c2 c3 c4, e33c15 c122] [.c (.pS a51)] (fun av hp' => (∃ y : Int × LI × LK, av = .v (.c (.p .bool true)) ∧ hp' = [(37100, [], .lp lr1 (0 : Int) (VCc67_s1 30000 30001 30002 30003 30004 30005 c)), e33c4, e33c2 sign over, hB 30002 [.pI y.1], e33c7, e33c9 v31, e33c1 c3 v31, hA 30006 3 tI y.2.1, e33c0 c0 c1 c2 c3 c4, (70101, [], .dict (.pr tI t3) tI y.2.2)] ∧ Kt y) ∨ (∃ y : Int × Int × LI × LK, av = .v (.c (.p .bool false)) ∧ hp' = [(37100, [], .lp lr1 y.1 (VCc67_s1 30000 30001 30002 30003 30004 30005 c)), e33c4, e33c2 sign over, hB 30002 [.pI y.2.1], e33c7, e33c9 v31, e33c1 c3 v31, hA 30006 3 tI y.2.2.1, e33c0 c0 c1 c2 c3 c4, (70101, [], .dict (.pr tI t3) tI y.2.2.2)] ∧ Kf y)) := by
       intro a51 c22 c6 c122 Kt Kf h
       refine lyield_of_aw (sl := VCc67_s1 30000 30001 30002 30003 30004 30005 c) (hp1 := [e33c4, e33c2 sign over, e33c41 c22, e33c7, e33c9 v31, e33c1 c3 v31, e33c10 c6, e33c0 c0 c1 c2 c3 c4, e33c15 c122]) e33cn0 e33cn2 e33cn1 [30000, 30001, 30002, 30003, 30004, 30005, 70100] hps has hbd hnn (by kernel_rfl) (by kernel_rfl) (by decide) (by kernel_rfl) (by kernel_rfl) (by kernel_rfl) (by kernel_rfl) ?_
       refine aw_conv [] (st' := (⟨106, [s1 51 (.pS a51), e33c36, sp 6 30001, e33c37, e33c32, e33c53, e33c33, e33c21, e33c22, e33c23, e33c24, e33c25, e33c26, e33c19], [e33c4, e33c2 sign over, e33c41 c22, e33c7, e33c9 v31, e33c1 c3 v31, e33c10 c6, e33c0 c0 c1 c2 c3 c4, e33c15 c122]⟩ : St)) (by kernel_rfl) ?_
       unfold VCc67_y1 at h
       refine aw_region ?_
       refine rqT 1 ⟨106, [e33c36, sp 6 30001, e33c37, e33c32, e33c53, e33c33, s1 11 (.pS a51), e33c21, e33c22, e33c23, e33c24, e33c25, e33c26, e33c19], [e33c4, e33c2 sign over, e33c41 c22, e33c7, e33c9 v31, e33c1 c3 v31, e33c10 c6, e33c0 c0 c1 c2 c3 c4, e33c15 c122]⟩ (by kernel_rfl) ?_
       refine awl_nil ?_
       refine asgQ_n ?_
       refine aw_block ?_
       refine sr ?_
       refine rqT 3 ⟨106, [e33c36, e33c37, e33c32, e33c53, e33c33, sI 53 sign, s1 54 (.pS a51), e33c21, e33c22, e33c23, e33c24, e33c25, e33c26, e33c19], [e33c4, e33c2 sign over, e33c41 c22, e33c7, e33c9 v31, e33c1 c3 v31, e33c10 c6, e33c0 c0 c1 c2 c3 c4, e33c15 c122]⟩ (by kernel_rfl) ?_
       refine lcq (d := 55) [.d tI, .d (.sl tI)] (fun ret55v => (⟨106, [e33c36, e33c37, e33c32, e33c53, e33c33, s1 55 (.p (.sl (.pr tI tI)) ret55v), e33c21, e33c22, e33c23, e33c24, e33c25, e33c26, e33c19], [e33c4, e33c2 sign over, e33c41 c22, e33c7, e33c9 v31, e33c1 c3 v31, e33c10 c6, e33c0 c0 c1 c2 c3 c4, e33c15 c122]⟩ : St)) (by kernel_rfl) Try.call97 (fun _ => by kernel_rfl) (link97 sign a51 _ h) (fun ret55v h => ?_)
       refine rqT 1 ⟨106, [e33c36, e33c37, e33c32, e33c53, e33c33, e33c3 ret55v, e33c21, e33c22, e33c23, e33c24, e33c25, e33c26, e33c19], [e33c4, e33c2 sign over, e33c41 c22, e33c7, e33c9 v31, e33c1 c3 v31, e33c10 c6, e33c0 c0 c1 c2 c3 c4, e33c15 c122]⟩ (by kernel_rfl) ?_
       refine nsr ?_
       refine rqT 4 ⟨106, [e33c36, e33c37, e33c32, e33c53, e33c33, e33c3 ret55v, sp 56 70100, s1 58 (.pS ((c3.getD (v31).toNat ((0 : Int), ([] : LI))).2)), s1 59 (.p (.sl (.pr tI tI)) ret55v), e33c21, e33c22, e33c23, e33c24, e33c25, e33c26, e33c19], [e33c4, e33c2 sign over, e33c41 c22, e33c7, e33c9 v31, e33c1 c3 v31, e33c10 c6, e33c0 c0 c1 c2 c3 c4, e33c15 c122]⟩ (by kernel_rfl) ?_
       refine awl_lcall (σ := Int × LK) [70100, 70101] [70100] [.c (.ptr 70100 0), .c (.pS ((c3.getD (v31).toNat ((0 : Int), ([] : LI))).2)), .c (.p (.sl (.pr tI tI)) ret55v)] [] (fun ret60v => .v (.c (.pI ret60v.1))) (fun ret60v => [e33c0 c0 c1 c2 c3 c4, e33c17 ret60v]) (_) [e33c0 c0 c1 c2 c3 c4, e33c15 c122] (fun ret60v => (⟨106, [sI 60 ret60v.1, e33c36, e33c37, e33c32, e33c53, e33c33, e33c3 ret55v, sp 56 70100, s1 58 (.pS ((c3.getD (v31).toNat ((0 : Int), ([] : LI))).2)), s1 59 (.p (.sl (.pr tI tI)) ret55v), e33c21, e33c22, e33c23, e33c24, e33c25, e33c26, e33c19], [e33c0 c0 c1 c2 c3 c4, e33c17 ret60v, e33c4, e33c2 sign over, e33c41 c22, e33c7, e33c9 v31, e33c1 c3 v31, e33c10 c6]⟩ : St)) rfl rfl (by kernel_rfl) rfl (by kernel_rfl) Try.call98 (by kernel_rfl) (by kernel_rfl) (by kernel_rfl) (fun _ _ => rfl) (fun _ => by kernel_rfl) (linkcr98 c0 c1 c2 c3 c4 ((c3.getD (v31).toNat ((0 : Int), ([] : LI))).2) ret55v c122 _ h) (fun ret60v h => ?_)
       refine lpr (st' := (⟨106, [e33c36, e33c37, e33c32, e33c53, e33c33, e33c3 ret55v, sI 60 ret60v.1, e33c21, e33c22, e33c23, e33c24, e33c25, e33c26, e33c19], [e33c4, e33c2 sign over, e33c41 c22, e33c7, e33c9 v31, e33c1 c3 v31, e33c10 c6, e33c0 c0 c1 c2 c3 c4, e33c17 ret60v]⟩ : St)) (by kernel_rfl) ?_
       refine rqT 1 ⟨106, [e33c36, e33c37, e33c32, e33c53, e33c33, e33c3 ret55v, sI 13 ret60v.1, e33c21, e33c22, e33c23, e33c24, e33c25, e33c26, e33c19], [e33c4, e33c2 sign over, e33c41 c22, e33c7, e33c9 v31, e33c1 c3 v31, e33c10 c6, e33c0 c0 c1 c2 c3 c4, e33c17 ret60v]⟩ (by kernel_rfl) ?_
       refine nn ?_
       refine aw_seq ?_
       refine srn 3 ⟨106, [e33c36, e33c37, e33c32, e33c53, e33c33, e33c3 ret55v, sI 13 ret60v.1, sB 63 (decide (ret60v.1 ≤ c22)), e33c21, e33c22, e33c23, e33c24, e33c25, e33c26, e33c19], [e33c4, e33c2 sign over, e33c41 c22, e33c7, e33c9 v31, e33c1 c3 v31, e33c10 c6, e33c0 c0 c1 c2 c3 c4, e33c17 ret60v]⟩ (by kernel_rfl) rfl ?_
       refine aw_cond (b := (decide (ret60v.1 ≤ c22))) (by kernel_rfl) (fun hb => ?_) (fun hb => ?_)
       ·have h := h.1 hb
        refine sr ?_
        obtain ⟨o1, h⟩ := h
        refine rq 4 (ob := (Ts 2 (InR (c22 - ret60v.1) ∧ Ts 1 True))) (st' := (⟨106, [e33c21, e33c22, e33c23, e33c24, e33c25, e33c26, e33c19], [e33c4, e33c2 sign over, hB 30002 [.pI (c22 - ret60v.1)], e33c7, e33c9 v31, e33c1 c3 v31, e33c10 c6, e33c0 c0 c1 c2 c3 c4, e33c17 ret60v]⟩ : St)) (by kernel_rfl) (tsI 2 ⟨o1, tsI 1 trivial⟩) ?_
        refine nn ?_
        refine aw_exit ?_
        refine thenQ_x ?_
        refine blockQ_hit ?_
        exact yret_n ((c22 - ret60v.1), c6, ret60v.2) (by kernel_rfl) (by kernel_rfl) h
       ·have h := h.2 hb
        refine aw_skip ?_
        refine thenQ_n ?_
        refine srn 3 ⟨106, [e33c36, e33c37, e33c32, e33c33, e33c3 ret55v, e33c54, e33c21, e33c22, e33c23, e33c24, e33c25, e33c26, e33c19], [hA 68 3 tI [v31], e33c4, e33c2 sign over, e33c41 c22, e33c7, e33c9 v31, e33c1 c3 v31, e33c10 c6, e33c0 c0 c1 c2 c3 c4, e33c17 ret60v]⟩ (by kernel_rfl) rfl ?_
        refine aw_seq ?_
        refine srn 4 ⟨106, [e33c36, e33c37, e33c32, e33c33, e33c3 ret55v, e33c54, e33c8 c3 v31, e33c6 c3 v31, sI 72 (0 : Int), e33c21, e33c22, e33c23, e33c24, e33c25, e33c26, e33c19], [hA 68 3 tI [v31], e33c4, e33c2 sign over, e33c41 c22, e33c7, e33c9 v31, e33c1 c3 v31, e33c10 c6, e33c0 c0 c1 c2 c3 c4, e33c17 ret60v]⟩ (by kernel_rfl) rfl ?_
        refine withJoin (σ := LI × Int × LK) (fun s => (⟨106, [e33c32, e33c54, e33c21, e33c22, e33c23, e33c24, e33c25, e33c26, e33c19], [hA 68 3 tI s.1, e33c4, e33c2 sign over, hB 30002 [.pI s.2.1], e33c7, e33c9 v31, e33c1 c3 v31, e33c10 c6, e33c0 c0 c1 c2 c3 c4, (70101, [], .dict (.pr tI t3) tI s.2.2)]⟩ : St)) (fun s => VCc67_k3 Kf s.1 s.2.1 s.2.2) (fun s h => ?_) (fun rest3 => ?_)
        ·obtain ⟨out, l30002, l701012⟩ := s
         have h : VCc67_k3 Kf out l30002 l701012 := h
         unfold VCc67_k3 at h
         refine thenQ_n ?_
         refine srn 2 ⟨106, [e33c21, e33c22, e33c23, e33c24, e33c25, e33c26, e33c19], [hA 68 3 tI out, e33c4, e33c2 sign over, hB 30002 [.pI l30002], hB 30003 [.own 68], e33c9 v31, e33c1 c3 v31, e33c0 c0 c1 c2 c3 c4, e33c14 l701012]⟩ (by kernel_rfl) rfl ?_
         refine aw_conv [.ren 68 30006, .prune [106, 107, 108, 109, 110, 111, 112] e33cn1] (st' := (⟨106, [e33c21, e33c22, e33c23, e33c24, e33c25, e33c26, e33c19], [e33c4, e33c2 sign over, hB 30002 [.pI l30002], e33c7, e33c9 v31, e33c1 c3 v31, hA 30006 3 tI out, e33c0 c0 c1 c2 c3 c4, e33c14 l701012]⟩ : St)) (by kernel_rfl) ?_
         refine aw_ret ?_
         refine blockQ_r ?_
         exact yret_r ((1 : Int), l30002, out, l701012) (by kernel_rfl) (by kernel_rfl) h
        ·refine aw_block ?_
         refine aw_loop (σ := Int × LI × Int × LK) (fun s => (⟨106, [e33c36, e33c37, e33c32, e33c33, e33c3 ret55v, e33c54, e33c8 c3 v31, e33c6 c3 v31, sI 72 s.1, e33c21, e33c22, e33c23, e33c24, e33c25, e33c26, e33c19], [hA 68 3 tI s.2.1, e33c4, e33c2 sign over, hB 30002 [.pI s.2.2.1], e33c7, e33c9 v31, e33c1 c3 v31, e33c10 c6, e33c0 c0 c1 c2 c3 c4, (70101, [], .dict (.pr tI t3) tI s.2.2.2)]⟩ : St)) (fun s X => VCc67_l2 c0 c1 c2 c3 c4 R v31 Kf ret55v s.1 s.2.1 s.2.2.1 s.2.2.2 X) (s0 := ((0 : Int), [v31], c22, ret60v.2)) (fun s X2 h => ?_) h
         obtain ⟨v72, out, i3, l701012⟩ := s
         have h : VCc67_l2 c0 c1 c2 c3 c4 R v31 Kf ret55v v72 out i3 l701012 X2 := h
         unfold VCc67_l2 at h
         refine srn 1 ⟨106, [e33c36, e33c37, e33c32, e33c33, e33c3 ret55v, e33c54, e33c8 c3 v31, e33c6 c3 v31, sI 72 v72, sB 73 (decide (v72 < (((c3.getD (v31).toNat ((0 : Int), ([] : LI))).2).length : Int))), e33c21, e33c22, e33c23, e33c24, e33c25, e33c26, e33c19], [hA 68 3 tI out, e33c4, e33c2 sign over, e33c45 i3, e33c7, e33c9 v31, e33c1 c3 v31, e33c10 c6, e33c0 c0 c1 c2 c3 c4, e33c14 l701012]⟩ (by kernel_rfl) rfl ?_
         refine aw_seq ?_
         refine aw_cond (b := (decide (v72 < (((c3.getD (v31).toNat ((0 : Int), ([] : LI))).2).length : Int)))) (by kernel_rfl) (fun hb => ?_) (fun hb => ?_)
         ·have h := h.1 hb
          refine aw_skip ?_
          refine thenQ_n ?_
          refine aw_seq ?_
          refine aw_block ?_
          refine sr ?_
          obtain ⟨o1, h⟩ := h
          refine rq 5 (ob := (Ts 1 (inIdx v72 ((c3.getD (v31).toNat ((0 : Int), ([] : LI))).2).length ∧ Ts 3 True))) (st' := (⟨106, [e33c36, e33c37, e33c32, e33c33, e33c3 ret55v, e33c54, sI 15 v72, e33c16 c3 v31 v72, e33c8 c3 v31, e33c6 c3 v31, sI 72 v72, e33c21, e33c22, e33c23, e33c24, e33c25, e33c26, e33c19], [hA 68 3 tI out, e33c4, e33c2 sign over, e33c45 i3, e33c7, e33c9 v31, e33c1 c3 v31, e33c10 c6, e33c0 c0 c1 c2 c3 c4, e33c14 l701012]⟩ : St)) (by kernel_rfl) (tsI 1 ⟨o1, tsI 3 trivial⟩) ?_
          refine nn ?_
          refine aw_seq ?_
          refine aw_conv [.ren 68 30300] (st' := (⟨106, [e33c36, e33c37, e33c32, e33c33, e33c3 ret55v, e33c52, sI 15 v72, e33c16 c3 v31 v72, e33c8 c3 v31, e33c6 c3 v31, sI 72 v72, e33c21, e33c22, e33c23, e33c24, e33c25, e33c26, e33c19], [e33c47 out, e33c4, e33c2 sign over, e33c45 i3, e33c7, e33c9 v31, e33c1 c3 v31, e33c10 c6, e33c0 c0 c1 c2 c3 c4, e33c14 l701012]⟩ : St)) (by kernel_rfl) ?_
          refine awd_begin [70100, 70101] (by kernel_rfl) ?_
          obtain ⟨o1, o2, o3, o4, h⟩ := h
          refine drq (by kernel_rfl) e33cn3 (ob := (Ts 4 (InR (v72 + (1 : Int)) ∧ (0 ≤ (v72 + (1 : Int)) ∧ (v72 + (1 : Int)) ≤ (((c3.getD (v31).toNat ((0 : Int), ([] : LI))).2).length : Int)) ∧ Ts 2 (InR (v72 + (1 : Int)) ∧ (0 ≤ (v72 + (1 : Int)) ∧ (v72 + (1 : Int)) ≤ (ret55v.length : Int)) ∧ True)))) (done' := e33cn4) (st' := (⟨106, [e33c36, e33c37, e33c32, e33c33, e33c3 ret55v, e33c52, sI 15 v72, e33c16 c3 v31 v72, e33c8 c3 v31, e33c6 c3 v31, sI 72 v72, sp 77 70100, s1 82 (.pS (((c3.getD (v31).toNat ((0 : Int), ([] : LI))).2).drop ((v72 + (1 : Int))).toNat)), s1 86 (.p (.sl (.pr tI tI)) (ret55v.drop ((v72 + (1 : Int))).toNat)), e33c21, e33c22, e33c23, e33c24, e33c25, e33c26, e33c19], [e33c4, e33c2 sign over, e33c45 i3, e33c7, e33c9 v31, e33c1 c3 v31, e33c10 c6, e33c47 out, e33c0 c0 c1 c2 c3 c4, e33c14 l701012]⟩ : St)) (by kernel_rfl) (tsI 4 (⟨o1, ⟨o2, tsI 2 (⟨o3, ⟨o4, trivial⟩⟩)⟩⟩)) ?_
          refine awd_one (i := 10) (by kernel_rfl) ?_
          refine adop_lcall (σ := Int × LK) [70100, 70101] [70100] [.c (.ptr 70100 0), .c (.pS (((c3.getD (v31).toNat ((0 : Int), ([] : LI))).2).drop ((v72 + (1 : Int))).toNat)), .c (.p (.sl (.pr tI tI)) (ret55v.drop ((v72 + (1 : Int))).toNat))] [] (fun ret87v => .v (.c (.pI ret87v.1))) (fun ret87v => [e33c0 c0 c1 c2 c3 c4, e33c28 ret87v]) (_) [e33c0 c0 c1 c2 c3 c4, e33c14 l701012] (fun ret87v => (⟨106, [sI 87 ret87v.1, e33c36, e33c37, e33c32, e33c33, e33c3 ret55v, e33c52, sI 15 v72, e33c16 c3 v31 v72, e33c8 c3 v31, e33c6 c3 v31, sI 72 v72, sp 77 70100, s1 82 (.pS (((c3.getD (v31).toNat ((0 : Int), ([] : LI))).2).drop ((v72 + (1 : Int))).toNat)), s1 86 (.p (.sl (.pr tI tI)) (ret55v.drop ((v72 + (1 : Int))).toNat)), e33c21, e33c22, e33c23, e33c24, e33c25, e33c26, e33c19], [e33c0 c0 c1 c2 c3 c4, e33c28 ret87v, e33c4, e33c2 sign over, e33c45 i3, e33c7, e33c9 v31, e33c1 c3 v31, e33c10 c6, e33c47 out]⟩ : St)) rfl (by kernel_rfl) rfl rfl (by kernel_rfl) rfl (by kernel_rfl) Try.call98 (by kernel_rfl) (by kernel_rfl) (by kernel_rfl) (fun _ _ => rfl) (fun _ => by kernel_rfl) (linkcr98 c0 c1 c2 c3 c4 (((c3.getD (v31).toNat ((0 : Int), ([] : LI))).2).drop ((v72 + (1 : Int))).toNat) (ret55v.drop ((v72 + (1 : Int))).toNat) l701012 _ h) (fun ret87v h => ?_)
          refine dpr (st' := (⟨106, [e33c36, e33c37, e33c32, e33c33, e33c3 ret55v, e33c52, sI 15 v72, e33c16 c3 v31 v72, e33c8 c3 v31, e33c6 c3 v31, sI 72 v72, sI 87 ret87v.1, e33c21, e33c22, e33c23, e33c24, e33c25, e33c26, e33c19], [e33c4, e33c2 sign over, e33c45 i3, e33c7, e33c9 v31, e33c1 c3 v31, e33c10 c6, e33c47 out, e33c0 c0 c1 c2 c3 c4, e33c28 ret87v]⟩ : St)) (by kernel_rfl) ?_
          refine drq (by kernel_rfl) [11] (ob := (Ts 1 True)) (done' := [11, 10, 9, 8, 7, 6, 5, 4, 3, 2, 1, 0]) (st' := (⟨106, [e33c36, e33c37, e33c32, e33c33, e33c3 ret55v, e33c52, sI 15 v72, e33c16 c3 v31 v72, sI 17 ret87v.1, e33c8 c3 v31, e33c6 c3 v31, sI 72 v72, e33c21, e33c22, e33c23, e33c24, e33c25, e33c26, e33c19], [e33c4, e33c2 sign over, e33c45 i3, e33c7, e33c9 v31, e33c1 c3 v31, e33c10 c6, e33c47 out, e33c0 c0 c1 c2 c3 c4, e33c28 ret87v]⟩ : St)) (by kernel_rfl) (tsI 1 trivial) ?_
          refine awd_done (by kernel_rfl) ?_
          refine thenQ_n ?_
          refine aw_seq ?_
          refine awd_begin [30300, 70100, 70101] (by kernel_rfl) ?_
          obtain ⟨o1, o2, h⟩ := h
          refine drq (by kernel_rfl) e33cn3 (ob := (Ts 5 (inIdx v72 ret55v.length ∧ Ts 3 ((0 ≤ i3 ∧ 0 < ret87v.1) ∧ True)))) (done' := e33cn4) (st' := (⟨106, [e33c36, e33c37, e33c32, e33c33, e33c3 ret55v, e33c52, sI 17 ret87v.1, e33c8 c3 v31, e33c6 c3 v31, sI 72 v72, s1 88 (.own 30300), sp 89 70100, sI 90 (((c3.getD (v31).toNat ((0 : Int), ([] : LI))).2).getD (v72).toNat (0 : Int)), e33c43 ret55v v72, sI 97 (i3 / ret87v.1), e33c21, e33c22, e33c23, e33c24, e33c25, e33c26, e33c19], [e33c4, e33c2 sign over, e33c45 i3, e33c7, e33c9 v31, e33c1 c3 v31, e33c10 c6, e33c47 out, e33c0 c0 c1 c2 c3 c4, e33c28 ret87v]⟩ : St)) (by kernel_rfl) (tsI 5 (⟨o1, tsI 3 ⟨o2, trivial⟩⟩)) ?_
          refine awd_one (i := 10) (by kernel_rfl) ?_
          refine adop_lcall (σ := LI × LK) [70100, 70101] [70100] [.c (.ptr 70100 0), .c (.pI (((c3.getD (v31).toNat ((0 : Int), ([] : LI))).2).getD (v72).toNat (0 : Int))), .agg [.pI ((ret55v.getD (v72).toNat ((0 : Int), (0 : Int))).1), .pI ((ret55v.getD (v72).toNat ((0 : Int), (0 : Int))).2)], .c (.pI (i3 / ret87v.1))] [] (fun ret98v => .v (.c (.pS ret98v.1))) (fun ret98v => [e33c0 c0 c1 c2 c3 c4, e33c18 ret98v]) (_) [e33c0 c0 c1 c2 c3 c4, e33c28 ret87v] (fun ret98v => (⟨106, [s1 98 (.pS ret98v.1), e33c36, e33c37, e33c32, e33c33, e33c3 ret55v, e33c52, sI 17 ret87v.1, e33c8 c3 v31, e33c6 c3 v31, sI 72 v72, s1 88 (.own 30300), sp 89 70100, sI 90 (((c3.getD (v31).toNat ((0 : Int), ([] : LI))).2).getD (v72).toNat (0 : Int)), e33c43 ret55v v72, sI 97 (i3 / ret87v.1), e33c21, e33c22, e33c23, e33c24, e33c25, e33c26, e33c19], [e33c0 c0 c1 c2 c3 c4, e33c18 ret98v, e33c4, e33c2 sign over, e33c45 i3, e33c7, e33c9 v31, e33c1 c3 v31, e33c10 c6, e33c47 out]⟩ : St)) rfl (by kernel_rfl) rfl rfl (by kernel_rfl) rfl (by kernel_rfl) Try.call67 (by kernel_rfl) (by kernel_rfl) (by kernel_rfl) (fun _ _ => rfl) (fun _ => by kernel_rfl) (hR (((c3.getD (v31).toNat ((0 : Int), ([] : LI))).2).getD (v72).toNat (0 : Int)) ((ret55v.getD (v72).toNat ((0 : Int), (0 : Int))).1) ((ret55v.getD (v72).toNat ((0 : Int), (0 : Int))).2) (i3 / ret87v.1) ret87v.2 _ h) (fun ret98v h => ?_)
          refine dpr (st' := (⟨106, [e33c36, e33c37, e33c32, e33c33, e33c3 ret55v, e33c52, sI 17 ret87v.1, e33c8 c3 v31, e33c6 c3 v31, sI 72 v72, s1 88 (.own 30300), s1 98 (.pS ret98v.1), e33c21, e33c22, e33c23, e33c24, e33c25, e33c26, e33c19], [e33c4, e33c2 sign over, e33c45 i3, e33c7, e33c9 v31, e33c1 c3 v31, e33c10 c6, e33c47 out, e33c0 c0 c1 c2 c3 c4, e33c18 ret98v]⟩ : St)) (by kernel_rfl) ?_
          refine awd_one (i := 11) (by kernel_rfl) ?_
          obtain ⟨o1, h⟩ := h
          refine dsq (ob := roomN (out.length + ret98v.1.length)) (st' := (⟨106, [e33c36, e33c37, e33c32, e33c33, e33c3 ret55v, sI 17 ret87v.1, e33c8 c3 v31, e33c6 c3 v31, sI 72 v72, s1 99 (.own 99), e33c21, e33c22, e33c23, e33c24, e33c25, e33c26, e33c19], [hA 99 3 tI (out ++ ret98v.1), e33c4, e33c2 sign over, e33c45 i3, e33c7, e33c9 v31, e33c1 c3 v31, e33c10 c6, e33c0 c0 c1 c2 c3 c4, e33c18 ret98v]⟩ : St)) rfl (by kernel_rfl) o1 ?_
          refine drq (by kernel_rfl) [12] (ob := (Ts 1 True)) (done' := [12, 11, 10, 9, 8, 7, 6, 5, 4, 3, 2, 1, 0]) (st' := (⟨106, [e33c36, e33c37, e33c32, e33c33, e33c3 ret55v, s1 14 (.own 99), sI 17 ret87v.1, e33c8 c3 v31, e33c6 c3 v31, sI 72 v72, e33c21, e33c22, e33c23, e33c24, e33c25, e33c26, e33c19], [hA 99 3 tI (out ++ ret98v.1), e33c4, e33c2 sign over, e33c45 i3, e33c7, e33c9 v31, e33c1 c3 v31, e33c10 c6, e33c0 c0 c1 c2 c3 c4, e33c18 ret98v]⟩ : St)) (by kernel_rfl) (tsI 1 trivial) ?_
          refine awd_done (by kernel_rfl) ?_
          refine thenQ_n ?_
          refine aw_region ?_
          obtain ⟨o1, h⟩ := h
          refine rq 4 (ob := (Ts 2 ((0 ≤ i3 ∧ 0 < ret87v.1) ∧ Ts 1 True))) (st' := (⟨106, [e33c36, e33c37, e33c32, e33c33, e33c3 ret55v, s1 14 (.own 99), e33c8 c3 v31, e33c6 c3 v31, sI 72 v72, e33c21, e33c22, e33c23, e33c24, e33c25, e33c26, e33c19], [hA 99 3 tI (out ++ ret98v.1), e33c4, e33c2 sign over, hB 30002 [.pI (i3 % ret87v.1)], e33c7, e33c9 v31, e33c1 c3 v31, e33c10 c6, e33c0 c0 c1 c2 c3 c4, e33c18 ret98v]⟩ : St)) (by kernel_rfl) (tsI 2 ⟨o1, tsI 1 trivial⟩) ?_
          refine awl_nil ?_
          refine blockQ_n ?_
          refine thenQ_n ?_
          refine aw_region ?_
          obtain ⟨o1, h⟩ := h
          refine rq 2 (ob := (InR (v72 + (1 : Int)) ∧ Ts 1 True)) (st' := (⟨106, [e33c36, e33c37, e33c32, e33c33, e33c3 ret55v, s1 14 (.own 99), e33c8 c3 v31, e33c6 c3 v31, sI 72 (v72 + (1 : Int)), e33c21, e33c22, e33c23, e33c24, e33c25, e33c26, e33c19], [hA 99 3 tI (out ++ ret98v.1), e33c4, e33c2 sign over, hB 30002 [.pI (i3 % ret87v.1)], e33c7, e33c9 v31, e33c1 c3 v31, e33c10 c6, e33c0 c0 c1 c2 c3 c4, e33c18 ret98v]⟩ : St)) (by kernel_rfl) (⟨o1, tsI 1 trivial⟩) ?_
          refine awl_conv [.ren 99 20099, .ren 20099 68] (st' := (⟨106, [e33c36, e33c37, e33c32, e33c33, e33c3 ret55v, e33c54, e33c8 c3 v31, e33c6 c3 v31, sI 72 (v72 + (1 : Int)), e33c21, e33c22, e33c23, e33c24, e33c25, e33c26, e33c19], [hA 68 3 tI (out ++ ret98v.1), e33c4, e33c2 sign over, hB 30002 [.pI (i3 % ret87v.1)], e33c7, e33c9 v31, e33c1 c3 v31, e33c10 c6, e33c0 c0 c1 c2 c3 c4, e33c18 ret98v]⟩ : St)) (by kernel_rfl) ?_
          refine awl_nil ?_
          exact thenQ_n ⟨((v72 + (1 : Int)), (out ++ ret98v.1), (i3 % ret87v.1), ret98v.2), rfl, h⟩
         ·have h := h.2 hb
          refine cpr (st' := (⟨106, [e33c32, e33c54, e33c21, e33c22, e33c23, e33c24, e33c25, e33c26, e33c19], [hA 68 3 tI out, e33c4, e33c2 sign over, e33c45 i3, e33c7, e33c9 v31, e33c1 c3 v31, e33c10 c6, e33c0 c0 c1 c2 c3 c4, e33c14 l701012]⟩ : St)) (by kernel_rfl) ?_
          refine aw_exit ?_
          refine thenQ_x ?_
          refine thenQ_x ?_
          refine blockQ_hit ?_
          exact rest3 (out, i3, l701012) h
      refine aw_conv [] (st' := (⟨8, [s1 0 (.yv 37100), e33c40 c3 v31, s1 2 (.ad (.pr tI tI) (sign, over)), e33c51, sI 9 c, sp 12 30000, sp 14 30001, sp 15 30002, sp 16 30003, sp 17 30004, sp 18 30005, e33c20 c3, e33c49 c3, sI 39 v31, s1 58 (.fn 121 [(⟨tI, (((c3.getD (v31).toNat ((0 : Int), ([] : LI))).2).length : Int)⟩ : Dat), (⟨(.pr tI tI), (sign, over)⟩ : Dat)]), sp 114 70100], [(37100, [], .lp lr1 (0 : Int) (VCc67_s1 30000 30001 30002 30003 30004 30005 c)), e33c4, e33c2 sign over, e33c44 i2, e33c7, e33c9 v31, e33c1 c3 v31, e33c27 l6160, e33c0 c0 c1 c2 c3 c4, e33c5 l70101]⟩ : St)) (by kernel_rfl) ?_
      refine sr ?_
      refine rqT 1 ⟨8, [e33c40 c3 v31, s1 2 (.ad (.pr tI tI) (sign, over)), sp 3 3, sI 9 c, sp 12 30000, sp 14 30001, sp 15 30002, sp 16 30003, e33c20 c3, e33c49 c3, sI 39 v31, sp 114 70100, e33c51], [hB 3 [.yv 37100], e33c4, e33c2 sign over, e33c44 i2, e33c7, e33c9 v31, e33c1 c3 v31, e33c27 l6160, (37100, [], .lp lr1 (0 : Int) (VCc67_s1 30000 30001 30002 30003 30004 30005 c)), e33c0 c0 c1 c2 c3 c4, e33c5 l70101]⟩ (by kernel_rfl) ?_
      refine nsr ?_
      refine rqT 1 ⟨8, [e33c40 c3 v31, s1 2 (.ad (.pr tI tI) (sign, over)), sp 3 3, sp 4 4, sI 9 c, sp 12 30000, sp 14 30001, sp 15 30002, sp 16 30003, e33c20 c3, e33c49 c3, sI 39 v31, sp 114 70100, e33c51], [hB 3 [.yv 37100], hB 4 [.any], e33c4, e33c2 sign over, e33c44 i2, e33c7, e33c9 v31, e33c1 c3 v31, e33c27 l6160, (37100, [], .lp lr1 (0 : Int) (VCc67_s1 30000 30001 30002 30003 30004 30005 c)), e33c0 c0 c1 c2 c3 c4, e33c5 l70101]⟩ (by kernel_rfl) ?_
      refine nsr ?_
      refine rqT 2 ⟨8, [sp 4 4, sI 9 c, sp 12 30000, sp 14 30001, sp 15 30002, sp 16 30003, e33c20 c3, e33c49 c3, sI 39 v31, sp 114 70100, e33c51], [hB 3 [.yv 37100], e33c31 c3 v31 sign over, e33c4, e33c2 sign over, e33c44 i2, e33c7, e33c9 v31, e33c1 c3 v31, e33c27 l6160, (37100, [], .lp lr1 (0 : Int) (VCc67_s1 30000 30001 30002 30003 30004 30005 c)), e33c0 c0 c1 c2 c3 c4, e33c5 l70101]⟩ (by kernel_rfl) ?_
      refine nn ?_
      refine aw_region ?_
      refine rqT 1 ⟨8, [s1 6 (.cl 122 [.ad ⟨tI, (((c3.getD (v31).toNat ((0 : Int), ([] : LI))).2).length : Int)⟩, .pt 3 0, .ad ⟨(.pr tI tI), (sign, over)⟩, .pt 4 0]), sI 9 c, sp 12 30000, sp 14 30001, sp 15 30002, sp 16 30003, e33c20 c3, e33c49 c3, sI 39 v31, sp 114 70100, e33c51], [hB 3 [.yv 37100], e33c31 c3 v31 sign over, e33c4, e33c2 sign over, e33c44 i2, e33c7, e33c9 v31, e33c1 c3 v31, e33c27 l6160, (37100, [], .lp lr1 (0 : Int) (VCc67_s1 30000 30001 30002 30003 30004 30005 c)), e33c0 c0 c1 c2 c3 c4, e33c5 l70101]⟩ (by kernel_rfl) ?_
      refine awl_conv [.ren 3 41000, .ren 4 41011] (st' := (⟨8, [e33c29 c3 v31 sign over, sI 9 c, sp 12 30000, sp 14 30001, sp 15 30002, sp 16 30003, e33c20 c3, e33c49 c3, sI 39 v31, sp 114 70100, e33c51], [hB 41000 [.yv 37100], e33c11 c3 v31 sign over, e33c4, e33c2 sign over, e33c44 i2, e33c7, e33c9 v31, e33c1 c3 v31, e33c27 l6160, (37100, [], .lp lr1 (0 : Int) (VCc67_s1 30000 30001 30002 30003 30004 30005 c)), e33c0 c0 c1 c2 c3 c4, e33c5 l70101]⟩ : St)) (by kernel_rfl) ?_
      refine awl_lcall (σ := Bool × Int × LK × Int × LI) [41000, 37100, 30000, 70100, 70101, 30001, 30002, 30003, 30006, 30004, 30005, 41011] [41000, 37100, 30000, 70100, 30001, 30002, 30003, 30004, 30005, 41011] [.c (.nils)] [.c (.ad tI (((c3.getD (v31).toNat ((0 : Int), ([] : LI))).2).length : Int)), .c (.ptr 41000 0), .c (.ad (.pr tI tI) (sign, over)), .c (.ptr 41011 0)] (fun ret7v => .v (.c (.pB ret7v.1))) (fun ret7v => [hB 41000 [.yv 37100], (37100, [], .lp lr1 ret7v.2.1 (VCc67_s1 30000 30001 30002 30003 30004 30005 c)), e33c4, e33c0 c0 c1 c2 c3 c4, e33c35 ret7v, e33c2 sign over, hB 30002 [.pI ret7v.2.2.2.1], e33c7, hA 30006 3 tI ret7v.2.2.2.2, e33c9 v31, e33c1 c3 v31, e33c11 c3 v31 sign over]) (_) [hB 41000 [.yv 37100], (37100, [], .lp lr1 (0 : Int) (VCc67_s1 30000 30001 30002 30003 30004 30005 c)), e33c4, e33c0 c0 c1 c2 c3 c4, e33c5 l70101, e33c2 sign over, e33c44 i2, e33c7, e33c27 l6160, e33c9 v31, e33c1 c3 v31, e33c11 c3 v31 sign over] (fun ret7v => (⟨8, [sB 7 ret7v.1, e33c29 c3 v31 sign over, sI 9 c, sp 12 30000, sp 14 30001, sp 15 30002, sp 16 30003, e33c20 c3, e33c49 c3, sI 39 v31, sp 114 70100, e33c51], [hB 41000 [.yv 37100], (37100, [], .lp lr1 ret7v.2.1 (VCc67_s1 30000 30001 30002 30003 30004 30005 c)), e33c4, e33c0 c0 c1 c2 c3 c4, e33c35 ret7v, e33c2 sign over, hB 30002 [.pI ret7v.2.2.2.1], e33c7, hA 30006 3 tI ret7v.2.2.2.2, e33c9 v31, e33c1 c3 v31, e33c11 c3 v31 sign over]⟩ : St)) rfl rfl (by kernel_rfl) rfl (by kernel_rfl) Try.call122 (by kernel_rfl) (by kernel_rfl) (by kernel_rfl) (fun _ _ => rfl) (fun _ => by kernel_rfl) (lcalls_nil [some tI] (linkcr122y5 lr1 c (((c3.getD (v31).toNat ((0 : Int), ([] : LI))).2).length : Int) (sign, over) c0 c1 c2 c3 c4 sign over v31 ((c3.getD (v31).toNat ((0 : Int), ([] : LI))).1) ((c3.getD (v31).toNat ((0 : Int), ([] : LI))).2) (VCc67_y1 c0 c1 c2 c3 c4 R sign v31) hY1 ([] : List Int) (0 : Int) l70101 i2 l6160 _ h)) (fun ret7v h => ?_)
      refine lpr (st' := (⟨8, [sI 9 c, sp 12 30000, sp 14 30001, sp 15 30002, sp 16 30003, e33c20 c3, e33c49 c3, sI 39 v31, sp 114 70100, e33c51], [e33c4, e33c2 sign over, hB 30002 [.pI ret7v.2.2.2.1], e33c7, e33c9 v31, e33c1 c3 v31, hA 30006 3 tI ret7v.2.2.2.2, (37100, [], .lp lr1 ret7v.2.1 (VCc67_s1 30000 30001 30002 30003 30004 30005 c)), e33c0 c0 c1 c2 c3 c4, e33c35 ret7v]⟩ : St)) (by kernel_rfl) ?_
      refine awl_nil ?_
      refine rfQ_n ret7v.2.1 (VCc67_s1 30000 30001 30002 30003 30004 30005 c) rfl (by kernel_rfl) (by kernel_rfl) ⟨fun hk => ?_, fun hk0 hk => ?_, fun hk0 hk1 => ?_⟩
      ·have h := h.1 (decide_eq_true hk)
       refine cq [.prune [1, 4, 6, 7, 8, 29, 30, 31, 106] [30000, 30001, 30002, 30003, 30006, 70100, 70101], .ren 30000 50000, .ren 30001 50001, .ren 30002 50002, .ren 30003 50003, .ren 30006 50006, .ren 50000 4, .ren 50001 6, .ren 50002 7, .ren 50003 8, .ren 50006 6160] (s' := (⟨106, [sI 1 c, sp 4 4, sp 6 6, sp 7 7, sp 8 8, e33c12 c3, e33c38 c3, sI 31 v31, e33c39], [e33c42, e33c34 sign over, hB 7 [.pI ret7v.2.2.2.1], e33c48, hA 6160 3 tI ret7v.2.2.2.2, e33c0 c0 c1 c2 c3 c4, e33c35 ret7v]⟩ : St)) (by kernel_rfl) ?_
       refine blockQ_n ?_
       refine blockQ_n ?_
       exact rest2 (ret7v.2.2.2.1, ret7v.2.2.2.2, ret7v.2.2.1) h
      ·have h := h.2 (decide_eq_false hk0)
       obtain ⟨hk2, h⟩ := h
       refine cq [.freeze 30006, .prune [8, 106] [70100, 70101, 30003]] (s' := (⟨106, [e33c32, e33c39], [e33c0 c0 c1 c2 c3 c4, e33c35 ret7v, hB 30003 [.pS ret7v.2.2.2.2]]⟩ : St)) (by kernel_rfl) ?_
       refine blockQ_r ?_
       refine blockQ_r ?_
       refine thenQ_r ?_
       refine thenQ_r ?_
       refine blockQ_r ?_
       refine thenQ_r ?_
       exact lret_r (σ := LI × LK) (A := fun y => .v (.c (.pS y.1))) (H := fun y => [e33c0 c0 c1 c2 c3 c4, (70101, [], .dict (.pr tI t3) tI y.2)]) (ob := True) (ret7v.2.2.2.2, ret7v.2.2.1) (by kernel_rfl) trivial rfl (by kernel_rfl) (by kernel_rfl) (by kernel_rfl) h
      ·have h := h.2 (decide_eq_false hk0)
       obtain ⟨hk2, h⟩ := h
       exact absurd hk2 hk1
   ·have h := h.2 hb
    refine cpr (st' := (⟨106, [sp 8 8, e33c39], [e33c48, e33c50 l6160, e33c0 c0 c1 c2 c3 c4, e33c5 l70101]⟩ : St)) (by kernel_rfl) ?_
    refine aw_exit ?_
    refine thenQ_x ?_
    refine thenQ_x ?_
    refine blockQ_hit ?_
    exact rest1 (l6160, l70101) h
def VCc67_it (c0 : Int) (c1 : Int) (c2 : Int) (c3 : LR) (c4 : LI) : Nat → Int → Int → Int → Int → LK → (LI × LK → Prop) → Prop
  | 0 => fun _ _ _ _ _ _ => False
  | n + 1 => fun c sign over i c5 K => VCc67 c0 c1 c2 c3 c4 (VCc67_it c0 c1 c2 c3 c4 n) c sign over i c5 K
def VCcr67 (c0 : Int) (c1 : Int) (c2 : Int) (c3 : LR) (c4 : LI) (c : Int) (sign : Int) (over : Int) (i : Int) (c5 : LK) (K : LI × LK → Prop) : Prop := ∃ n, VCc67_it c0 c1 c2 c3 c4 n c sign over i c5 K
theorem linkci67 (c0 : Int) (c1 : Int) (c2 : Int) (c3 : LR) (c4 : LI) : ∀ (n : Nat) (c : Int) (sign : Int) (over : Int) (i : Int) (c5 : LK) (K : LI × LK → Prop), VCc67_it c0 c1 c2 c3 c4 n c sign over i c5 K → LCalls Try.prog 67 [70100, 70101] [70100] [e33c0 c0 c1 c2 c3 c4, e33c13 c5] [.c (.ptr 70100 0), .c (.pI c), .agg [.pI sign, .pI over], .c (.pI i)] (fun av hp' => ∃ y : LI × LK, av = .v (.c (.pS y.1)) ∧ hp' = [e33c0 c0 c1 c2 c3 c4, (70101, [], .dict (.pr tI t3) tI y.2)] ∧ K y)
  | 0, _, _, _, _, _, _, h => False.elim h
  | n + 1, c, sign, over, i, c5, K, h => linkc67 c0 c1 c2 c3 c4 (VCc67_it c0 c1 c2 c3 c4 n) (linkci67 c0 c1 c2 c3 c4 n) c sign over i c5 K h
theorem linkcr67 (c0 : Int) (c1 : Int) (c2 : Int) (c3 : LR) (c4 : LI) (c : Int) (sign : Int) (over : Int) (i : Int) (c5 : LK) (K : LI × LK → Prop) (h : VCcr67 c0 c1 c2 c3 c4 c sign over i c5 K) : LCalls Try.prog 67 [70100, 70101] [70100] [e33c0 c0 c1 c2 c3 c4, e33c13 c5] [.c (.ptr 70100 0), .c (.pI c), .agg [.pI sign, .pI over], .c (.pI i)] (fun av hp' => ∃ y : LI × LK, av = .v (.c (.pS y.1)) ∧ hp' = [e33c0 c0 c1 c2 c3 c4, (70101, [], .dict (.pr tI t3) tI y.2)] ∧ K y) := by
  obtain ⟨n, h⟩ := h
  exact linkci67 c0 c1 c2 c3 c4 n c sign over i c5 K h
abbrev e33d0 (g : TG) : Nat × Path × Con := hB 30000 [.pI g.1, .pI g.2.1, .pI g.2.2.1, .p (.sl tR) g.2.2.2]
abbrev e33d1 (g : TG) (w : LI) : Nat × Path × Con := hB 30401 [.pI g.1, .pI g.2.1, .pI g.2.2.1, .p (.sl tR) g.2.2.2, .pS w, .own 30400]
abbrev e33d2 (g : TG) (w : LI) : Nat × Path × Con := hB 7 [.pI (-1 : Int), .pI (g.1 + g.2.2.1), .pI (0 : Int), .pI (w.length : Int)]
abbrev e33d3 (g : TG) (w : LI) : Nat × Path × Con := hB 70100 [.pI g.1, .pI g.2.1, .pI g.2.2.1, .p (.sl tR) g.2.2.2, .pS w, .own 70101]
abbrev e33d4 : Nat × Path × Con := (30400, [], .dict (.pr tI t3) tI ([] : List ((Int × (Int × (Int × Int))) × Int)))
abbrev e33d5 (g : TG) : Nat × Path × Con := hB 2 [.pI g.1, .pI g.2.1, .pI g.2.2.1, .p (.sl tR) g.2.2.2]
abbrev e33d6 (g : TG) : Nat × Path × AV := s1 56 (.p (.sl tR) g.2.2.2)
abbrev e33d7 (w : LI) : Nat × Path × Con := hB 5 [.pI (0 : Int), .pI (w.length : Int)]
abbrev e33d8 (l30400 : LK) : Nat × Path × Con := (30400, [], .dict (.pr tI t3) tI l30400)
abbrev e33d9 (g : TG) : Nat × Path × Con := hB 30200 [.pI g.1, .pI g.2.1, .pI g.2.2.1, .p (.sl tR) g.2.2.2]
abbrev e33d10 (w : LI) : Nat × Path × AV := s1 124 (.pS w)
abbrev e33d11 (g : TG) : Nat × Path × AV := sI 1 (g.1 + g.2.2.1)
abbrev e33d12 (g : TG) (w : LI) : Nat × Path × Con := hB 9 [.pI g.1, .pI g.2.1, .pI g.2.2.1, .p (.sl tR) g.2.2.2, .pS w, .own 7]
abbrev e33d13 (g : TG) : Nat × Path × AV := sI 57 (g.2.2.2.length : Int)
abbrev e33d14 : Nat × Path × AV := sp 126 30000
abbrev e33d15 : Nat × Path × Con := (7, [], .dict (.pr tI t3) tI ([] : List ((Int × (Int × (Int × Int))) × Int)))
abbrev e33d16 (w : LI) : Nat × Path × AV := s1 1 (.pS w)
abbrev e33d17 (ret77v : Int × LK) : Nat × Path × Con := (70101, [], .dict (.pr tI t3) tI ret77v.2)
abbrev e33d18 (w : LI) : Nat × Path × AV := s1 37 (.pS w)
abbrev e33d19 (l30400 : LK) : Nat × Path × Con := (70101, [], .dict (.pr tI t3) tI l30400)
abbrev e33d20 (g : TG) (w : LI) : Nat × Path × AV := sI 8 ((mget ([] : List ((Int × (Int × (Int × Int))) × Int)) ((-1 : Int), ((g.1 + g.2.2.1), ((0 : Int), (w.length : Int))))).getD (0 : Int))
abbrev e33d21 : Nat × Path × AV := sp 95 30401
abbrev e33d22 (l30400 : LK) (g : TG) (w : LI) (n : Int) : Nat × Path × Con := (30400, [], .dict (.pr tI t3) tI (mset l30400 ((-1 : Int), ((g.1 + g.2.2.1), ((0 : Int), (w.length : Int)))) n))
abbrev e33d23 : Nat × Path × AV := sp 39 30000
abbrev e33d24 (g : TG) : Nat × Path × AV := sA 12 [.pI g.1, .pI g.2.1, .pI g.2.2.1, .p (.sl tR) g.2.2.2]
abbrev e33d25 (g : TG) : Nat × Path × AV := sA 19 [.pI g.1, .pI g.2.1, .pI g.2.2.1, .p (.sl tR) g.2.2.2]
abbrev e33d26 (g : TG) : Nat × Path × Con := hB 3 [.pI g.1, .pI g.2.1, .pI g.2.2.1, .p (.sl tR) g.2.2.2]
abbrev e33d27 (g : TG) : Nat × Path × AV := sA 0 [.pI g.1, .pI g.2.1, .pI g.2.2.1, .p (.sl tR) g.2.2.2]
abbrev e33d28 (w : LI) : Nat × Path × AV := sA 36 [.pI (0 : Int), .pI (w.length : Int)]
abbrev e33d29 : Nat × Path × AV := sp 0 30401
abbrev e33d30 (w : LI) : Nat × Path × AV := sA 76 [.pI (0 : Int), .pI (w.length : Int)]
abbrev e33dn0 : List Nat := [0, 1, 5, 7, 10, 56, 57, 58, 95, 124, 125, 126]
-- coppicer/pick.Pick
def VC33_k1 (g : TG) (i : Int) (K : LI × Int → Prop) (v6 : Int) : Prop :=
  (((!decide (v6 = (0 : Int))) = true → K (([] : LI), v6)) ∧ ((!decide (v6 = (0 : Int))) = false → ((((decide (i < (0 : Int))) || (decide ((0 : Int) ≤ i))) = true → K (([] : LI), (5 : Int))) ∧ (((decide (i < (0 : Int))) || (decide ((0 : Int) ≤ i))) = false → (InR (g.1 + g.2.2.1) ∧ False)))))
def VC33_k2 (g : TG) (w : LI) (i : Int) (K : LI × Int → Prop) (v6 : Int) (l30400 : LK) : Prop :=
  (((decide ((1099511627776 : Int) < v6)) = true → VC33_k1 g i K (1 : Int)) ∧ ((decide ((1099511627776 : Int) < v6)) = false → (((!decide ((0 : Int) = (0 : Int))) = true → K (([] : LI), (0 : Int))) ∧ ((!decide ((0 : Int) = (0 : Int))) = false → ((((decide (i < (0 : Int))) || (decide (v6 ≤ i))) = true → K (([] : LI), (5 : Int))) ∧ (((decide (i < (0 : Int))) || (decide (v6 ≤ i))) = false → (InR (g.1 + g.2.2.1) ∧ VCcr67 g.1 g.2.1 g.2.2.1 g.2.2.2 w (g.1 + g.2.2.1) (0 : Int) (w.length : Int) i l30400 (fun (ret38v : LI × LK) => K (ret38v.1, (0 : Int))))))))))
def VC33_k3 (g : TG) (w : LI) (i : Int) (K : LI × Int → Prop) (n : Int) (l30400 : LK) : Prop :=
  VC33_k2 g w i K n (mset l30400 ((-1 : Int), ((g.1 + g.2.2.1), ((0 : Int), (w.length : Int)))) n)
def VC33_k4 (v58 : Int) (X1 : Int × Int × LK → Prop) (n2 : Int) (l70101 : LK) : Prop :=
  (InR (v58 + (1 : Int)) ∧ X1 (n2, (v58 + (1 : Int)), l70101))
def VC33_l1 (g : TG) (w : LI) (i : Int) (K : LI × Int → Prop) (n : Int) (v58 : Int) (l30400 : LK) (X1 : Int × Int × LK → Prop) : Prop :=
  (((decide (v58 < (g.2.2.2.length : Int))) = true → (inIdx v58 g.2.2.2.length ∧ (InR ((g.1 + g.2.2.1) - g.1) ∧ (((decide ((g.2.2.2.getD (v58).toNat ((0 : Int), ([] : LI))).1 = ((g.1 + g.2.2.1) - g.1))) = true → VCcr100 g.1 g.2.1 g.2.2.1 g.2.2.2 w v58 (0 : Int) (0 : Int) (w.length : Int) l30400 (fun (ret77v : Int × LK) => VC109 n ret77v.1 (fun (ret78v : Int) => VC33_k4 v58 X1 ret78v ret77v.2))) ∧ ((decide ((g.2.2.2.getD (v58).toNat ((0 : Int), ([] : LI))).1 = ((g.1 + g.2.2.1) - g.1))) = false → VC33_k4 v58 X1 n l30400))))) ∧ ((decide (v58 < (g.2.2.2.length : Int))) = false → VC33_k3 g w i K n l30400))
def VC33 (g : TG) (w : LI) (i : Int) (K : LI × Int → Prop) : Prop :=
  VC44 g w (fun (ret12v : Int) => (((!decide (ret12v = (0 : Int))) = true → VC33_k1 g i K ret12v) ∧ ((!decide (ret12v = (0 : Int))) = false → VC84 g (fun (ret17v : Bool) => (((!ret17v) = true → VC33_k1 g i K (3 : Int)) ∧ ((!ret17v) = false → (InR (g.1 + g.2.2.1) ∧ (((decide ((g.1 + g.2.2.1) < g.1)) = true → (InR ((0 : Int) + (1 : Int)) ∧ ((decide ((w.length : Int) = ((0 : Int) + (1 : Int)))) = true → inIdx (0 : Int) w.length) ∧ ((((decide ((w.length : Int) = ((0 : Int) + (1 : Int)))) && (decide ((w.getD ((0 : Int)).toNat (0 : Int)) = (g.1 + g.2.2.1)))) = true → VC33_k2 g w i K (1 : Int) ([] : List ((Int × (Int × (Int × Int))) × Int))) ∧ (((decide ((w.length : Int) = ((0 : Int) + (1 : Int)))) && (decide ((w.getD ((0 : Int)).toNat (0 : Int)) = (g.1 + g.2.2.1)))) = false → VC33_k2 g w i K (0 : Int) ([] : List ((Int × (Int × (Int × Int))) × Int)))))) ∧ ((decide ((g.1 + g.2.2.1) < g.1)) = false → (((mget ([] : List ((Int × (Int × (Int × Int))) × Int)) ((-1 : Int), ((g.1 + g.2.2.1), ((0 : Int), (w.length : Int))))).isSome = true → VC33_k2 g w i K ((mget ([] : List ((Int × (Int × (Int × Int))) × Int)) ((-1 : Int), ((g.1 + g.2.2.1), ((0 : Int), (w.length : Int))))).getD (0 : Int)) ([] : List ((Int × (Int × (Int × Int))) × Int))) ∧ ((mget ([] : List ((Int × (Int × (Int × Int))) × Int)) ((-1 : Int), ((g.1 + g.2.2.1), ((0 : Int), (w.length : Int))))).isSome = false → Loop (σ := Int × Int × LK) (fun s X => VC33_l1 g w i K s.1 s.2.1 s.2.2 X) ((0 : Int), (0 : Int), ([] : List ((Int × (Int × (Int × Int))) × Int))))))))))))))
set_option maxHeartbeats 4000000 in
theorem link33 (g : TG) (w : LI) (i : Int) (K : LI × Int → Prop) (h : VC33 g w i K) : ACalls Try.prog 33 [toV1 tG g, toV1 (.sl tI) w, toV1 tI i] (fun res => ∃ y, res = (fun y => [toV1 (.sl tI) y.1, toV1 tI y.2]) y ∧ K y) := by
 refine acalls_of_aw [(.sl tI), tI] [.t 6, .t 7] Try.func33 rfl rfl rfl ?_
 unfold VC33 at h
 refine sr ?_
 refine rqT 3 ⟨39, [e33d16 w, sI 2 i, sp 3 3], [e33d26 g]⟩ (by kernel_rfl) ?_
 refine nsr ?_
 refine rqT 2 ⟨39, [e33d16 w, sI 2 i, sp 3 3, e33d24 g, s1 13 (.pS w)], [e33d26 g]⟩ (by kernel_rfl) ?_
 refine awl_conv [.ren 3 30000] (st' := (⟨39, [e33d16 w, sI 2 i, sp 3 30000, e33d24 g, s1 13 (.pS w)], [e33d0 g]⟩ : St)) (by kernel_rfl) ?_
 refine awl_inlr [.t 4, .t 5, .t 6] [30000] [.agg [.pI g.1, .pI g.2.1, .pI g.2.2.1, .p (.sl tR) g.2.2.2], .c (.pS w)] [] rfl rfl (by kernel_rfl) rfl (by kernel_rfl) Try.call54 (by kernel_rfl) (by kernel_rfl) Try.func54 rfl rfl (by kernel_rfl) ?_
 refine aw_conv [] (st' := (⟨36, [e33d27 g, e33d16 w, e33d18 w, sI 38 i, e33d23, sA 48 [.pI g.1, .pI g.2.1, .pI g.2.2.1, .p (.sl tR) g.2.2.2], s1 49 (.pS w)], [e33d0 g]⟩ : St)) (by kernel_rfl) ?_
 refine withJoinR (σ := Int) (fun s => (⟨36, [s1 4 (.any), sI 5 (0 : Int), sI 6 s, e33d18 w, sI 38 i, e33d23], [e33d0 g]⟩ : St)) (fun s => VC33_k1 g i K s) (fun v6 h => ?_) (fun rest1 => ?_)
 ·have h : VC33_k1 g i K v6 := h
  unfold VC33_k1 at h
  refine inlR_n (ob := (True ∧ True ∧ True ∧ True)) (.tup [.c (.any), .c (.pI (0 : Int)), .c (.pI v6)]) (by kernel_rfl) ⟨trivial, trivial, trivial, trivial⟩ rfl ?_
  refine lpr (st' := (⟨39, [e33d16 w, sI 2 i, sp 3 30000, (14, [], .tup [.c (.any), .c (.pI (0 : Int)), .c (.pI v6)])], [e33d0 g]⟩ : St)) (by kernel_rfl) ?_
  refine rqT 7 ⟨39, [e33d16 w, sI 2 i, sp 3 30000, s1 8 (.any), sI 9 (0 : Int), sI 10 v6], [e33d0 g]⟩ (by kernel_rfl) ?_
  refine nn ?_
  refine aw_seq ?_
  refine srn 2 ⟨39, [e33d16 w, sI 2 i, sp 3 30000, s1 8 (.any), sI 9 (0 : Int), sI 10 v6, sB 19 (!decide (v6 = (0 : Int)))], [e33d0 g]⟩ (by kernel_rfl) rfl ?_
  refine aw_cond (b := (!decide (v6 = (0 : Int)))) (by kernel_rfl) (fun hb => ?_) (fun hb => ?_)
  ·have h := h.1 hb
   refine srn 3 ⟨39, [s1 6 (.nils), sI 7 v6], []⟩ (by kernel_rfl) rfl ?_
   refine aw_ret ?_
   refine thenQ_r ?_
   exact retQ_r (ob := Ts 2 True) _ (by kernel_rfl) (tsI 2 trivial) h
  ·have h := h.2 hb
   refine aw_skip ?_
   refine thenQ_n ?_
   refine aw_seq ?_
   refine sr ?_
   refine rq 7 (ob := (Ts 3 (Ti 3 ((decide (i < (0 : Int))) = false → True) (Ts 1 True)))) (st' := (⟨39, [e33d16 w, sI 2 i, sp 3 30000, s1 8 (.any), sB 27 ((decide (i < (0 : Int))) || (decide ((0 : Int) ≤ i)))], [e33d0 g]⟩ : St)) (by kernel_rfl) (tsI 3 (tiI 3 (fun _ => trivial) (tsI 1 trivial))) ?_
   refine nn ?_
   refine aw_cond (b := ((decide (i < (0 : Int))) || (decide ((0 : Int) ≤ i)))) (by kernel_rfl) (fun hb => ?_) (fun hb => ?_)
   ·have h := h.1 hb
    refine srn 2 ⟨39, [s1 6 (.nils), sI 7 (5 : Int)], []⟩ (by kernel_rfl) rfl ?_
    refine aw_ret ?_
    refine thenQ_r ?_
    exact retQ_r (ob := Ts 2 True) _ (by kernel_rfl) (tsI 2 trivial) h
   ·have h := h.2 hb
    refine aw_skip ?_
    refine thenQ_n ?_
    refine sr ?_
    obtain ⟨o1, h⟩ := h
    refine rq 10 (ob := (Ts 5 (InR (g.1 + g.2.2.1) ∧ Ts 4 True))) (st' := (⟨39, [s1 28 (.any), sI 33 (g.1 + g.2.2.1), e33d28 w, sI 37 i], []⟩ : St)) (by kernel_rfl) (tsI 5 ⟨o1, tsI 4 trivial⟩) ?_
    exact h.elim
 ·refine srn 4 ⟨36, [e33d16 w, sp 2 2, e33d18 w, sI 38 i, e33d23], [e33d5 g, e33d0 g]⟩ (by kernel_rfl) rfl ?_
  refine aw_seq ?_
  refine sr ?_
  refine rqT 2 ⟨36, [e33d16 w, sp 2 2, sA 10 [.pI g.1, .pI g.2.1, .pI g.2.2.1, .p (.sl tR) g.2.2.2], s1 11 (.pS w), e33d18 w, sI 38 i, e33d23], [e33d5 g, e33d0 g]⟩ (by kernel_rfl) ?_
  refine lcq (d := 12) [.d tG, .d (.sl tI)] (fun ret12v => (⟨36, [e33d16 w, sp 2 2, sI 12 ret12v, e33d18 w, sI 38 i, e33d23], [e33d5 g, e33d0 g]⟩ : St)) (by kernel_rfl) Try.call44 (fun _ => by kernel_rfl) (link44 g w _ h) (fun ret12v h => ?_)
  refine rqT 1 ⟨36, [e33d16 w, sp 2 2, sI 7 ret12v, e33d18 w, sI 38 i, e33d23], [e33d5 g, e33d0 g]⟩ (by kernel_rfl) ?_
  refine nsr ?_
  refine rqT 2 ⟨36, [e33d16 w, sp 2 2, sI 7 ret12v, sB 14 (!decide (ret12v = (0 : Int))), e33d18 w, sI 38 i, e33d23], [e33d5 g, e33d0 g]⟩ (by kernel_rfl) ?_
  refine nn ?_
  refine aw_cond (b := (!decide (ret12v = (0 : Int)))) (by kernel_rfl) (fun hb => ?_) (fun hb => ?_)
  ·have h := h.1 hb
   refine srn 4 ⟨36, [s1 4 (.any), sI 5 (0 : Int), sI 6 ret12v, e33d18 w, sI 38 i, e33d23], [e33d0 g]⟩ (by kernel_rfl) rfl ?_
   refine aw_ret ?_
   refine thenQ_r ?_
   exact rest1 ret12v h
  ·have h := h.2 hb
   refine aw_skip ?_
   refine thenQ_n ?_
   refine aw_seq ?_
   refine sr ?_
   refine rqT 1 ⟨36, [e33d16 w, sp 2 2, sA 16 [.pI g.1, .pI g.2.1, .pI g.2.2.1, .p (.sl tR) g.2.2.2], e33d18 w, sI 38 i, e33d23], [e33d5 g, e33d0 g]⟩ (by kernel_rfl) ?_
   refine lcq (d := 17) [.d tG] (fun ret17v => (⟨36, [e33d16 w, sp 2 2, sB 17 ret17v, e33d18 w, sI 38 i, e33d23], [e33d5 g, e33d0 g]⟩ : St)) (by kernel_rfl) Try.call84 (fun _ => by kernel_rfl) (link84 g _ h) (fun ret17v h => ?_)
   refine rqT 1 ⟨36, [e33d16 w, sp 2 2, sB 18 (!ret17v), e33d18 w, sI 38 i, e33d23], [e33d5 g, e33d0 g]⟩ (by kernel_rfl) ?_
   refine nn ?_
   refine aw_cond (b := (!ret17v)) (by kernel_rfl) (fun hb => ?_) (fun hb => ?_)
   ·have h := h.1 hb
    refine srn 3 ⟨36, [s1 4 (.any), sI 5 (0 : Int), sI 6 (3 : Int), e33d18 w, sI 38 i, e33d23], [e33d0 g]⟩ (by kernel_rfl) rfl ?_
    refine aw_ret ?_
    refine thenQ_r ?_
    exact rest1 (3 : Int) h
   ·have h := h.2 hb
    refine aw_skip ?_
    refine thenQ_n ?_
    refine sr ?_
    refine rqT 2 ⟨36, [e33d16 w, sp 2 2, e33d25 g, s1 20 (.pS w), e33d18 w, sI 38 i, e33d23], [e33d5 g, e33d0 g]⟩ (by kernel_rfl) ?_
    refine awl_conv [.ren 2 30200] (st' := (⟨36, [e33d16 w, sp 2 30200, e33d25 g, s1 20 (.pS w), e33d18 w, sI 38 i, e33d23], [e33d9 g, e33d0 g]⟩ : St)) (by kernel_rfl) ?_
    refine awl_inlr [.t 4] [30200, 30000] [.agg [.pI g.1, .pI g.2.1, .pI g.2.2.1, .p (.sl tR) g.2.2.2], .c (.pS w)] [] rfl rfl (by kernel_rfl) rfl (by kernel_rfl) Try.call85 (by kernel_rfl) (by kernel_rfl) Try.func85 rfl rfl (by kernel_rfl) ?_
    refine aw_conv [] (st' := (⟨10, [e33d27 g, e33d16 w, s1 11 (.pS w), sp 12 30200, sA 29 [.pI g.1, .pI g.2.1, .pI g.2.2.1, .p (.sl tR) g.2.2.2], s1 30 (.pS w), s1 47 (.pS w), sI 48 i, sp 49 30000], [e33d9 g, e33d0 g]⟩ : St)) (by kernel_rfl) ?_
    refine sr ?_
    refine rqT 2 ⟨10, [e33d16 w, sp 2 2, s1 11 (.pS w), sp 12 30200, s1 47 (.pS w), sI 48 i, sp 49 30000], [e33d5 g, e33d0 g, e33d9 g]⟩ (by kernel_rfl) ?_
    refine nsr ?_
    refine rqT 6 ⟨10, [sp 4 9, s1 11 (.pS w), sp 12 30200, s1 47 (.pS w), sI 48 i, sp 49 30000], [e33d15, e33d12 g w, e33d0 g, e33d9 g]⟩ (by kernel_rfl) ?_
    refine nn ?_
    refine aw_ret ?_
    refine inlR_r (ob := True) (.v (.c (.ptr 9 0))) (by kernel_rfl) trivial rfl ?_
    refine lpr (st' := (⟨36, [e33d16 w, sp 2 30200, sp 21 9, e33d18 w, sI 38 i, e33d23], [e33d15, e33d12 g w, e33d0 g, e33d9 g]⟩ : St)) (by kernel_rfl) ?_
    refine rqT 1 ⟨36, [e33d16 w, sp 2 30200, sp 8 9, e33d18 w, sI 38 i, e33d23], [e33d15, e33d12 g w, e33d0 g, e33d9 g]⟩ (by kernel_rfl) ?_
    refine nsr ?_
    obtain ⟨o1, h⟩ := h
    refine rq 9 (ob := (Ts 5 (InR (g.1 + g.2.2.1) ∧ Ts 3 True))) (st' := (⟨36, [sp 8 9, sp 22 9, sI 27 (g.1 + g.2.2.1), sA 30 [.pI (0 : Int), .pI (w.length : Int)], e33d18 w, sI 38 i, e33d23], [e33d15, e33d12 g w, e33d0 g]⟩ : St)) (by kernel_rfl) (tsI 5 ⟨o1, tsI 3 trivial⟩) ?_
    refine awl_conv [.ren 7 30400, .ren 9 30401] (st' := (⟨36, [sp 8 30401, sp 22 30401, sI 27 (g.1 + g.2.2.1), sA 30 [.pI (0 : Int), .pI (w.length : Int)], e33d18 w, sI 38 i, e33d23], [e33d4, e33d1 g w, e33d0 g]⟩ : St)) (by kernel_rfl) ?_
    refine awl_inlr [.t 6] [30400, 30401, 30000] [.c (.ptr 30401 0), .c (.pI (g.1 + g.2.2.1)), .agg [.pI (0 : Int), .pI (w.length : Int)]] [] rfl rfl (by kernel_rfl) rfl (by kernel_rfl) Try.call86 (by kernel_rfl) (by kernel_rfl) Try.func86 rfl rfl (by kernel_rfl) ?_
    refine aw_conv [] (st' := (⟨87, [e33d29, e33d11 g, sA 2 [.pI (0 : Int), .pI (w.length : Int)], e33d21, sp 109 30401, sI 114 (g.1 + g.2.2.1), sA 117 [.pI (0 : Int), .pI (w.length : Int)], e33d10 w, sI 125 i, e33d14], [e33d4, e33d1 g w, e33d0 g]⟩ : St)) (by kernel_rfl) ?_
    refine withJoinR (σ := Int × LK) (fun s => (⟨87, [sI 6 s.1, e33d21, e33d10 w, sI 125 i, e33d14], [e33d0 g, (30400, [], .dict (.pr tI t3) tI s.2), e33d1 g w]⟩ : St)) (fun s => VC33_k2 g w i K s.1 s.2) (fun s h => ?_) (fun rest2 => ?_)
    ·obtain ⟨v6, l30400⟩ := s
     have h : VC33_k2 g w i K v6 l30400 := h
     unfold VC33_k2 at h
     refine inlR_n (ob := True) (.v (.c (.pI v6))) (by kernel_rfl) trivial rfl ?_
     refine lpr (st' := (⟨36, [sp 8 30401, sI 31 v6, e33d18 w, sI 38 i, e33d23], [e33d0 g, e33d8 l30400, e33d1 g w]⟩ : St)) (by kernel_rfl) ?_
     refine rqT 1 ⟨36, [sp 8 30401, sI 9 v6, e33d18 w, sI 38 i, e33d23], [e33d0 g, e33d8 l30400, e33d1 g w]⟩ (by kernel_rfl) ?_
     refine nn ?_
     refine aw_seq ?_
     refine srn 2 ⟨36, [sp 8 30401, sI 9 v6, sB 33 (decide ((1099511627776 : Int) < v6)), e33d18 w, sI 38 i, e33d23], [e33d0 g, e33d8 l30400, e33d1 g w]⟩ (by kernel_rfl) rfl ?_
     refine aw_cond (b := (decide ((1099511627776 : Int) < v6))) (by kernel_rfl) (fun hb => ?_) (fun hb => ?_)
     ·have h := h.1 hb
      refine srn 3 ⟨36, [s1 4 (.any), sI 5 (0 : Int), sI 6 (1 : Int), e33d18 w, sI 38 i, e33d23], [e33d0 g]⟩ (by kernel_rfl) rfl ?_
      refine aw_ret ?_
      refine thenQ_r ?_
      exact rest1 (1 : Int) h
     ·have h := h.2 hb
      refine aw_skip ?_
      refine thenQ_n ?_
      refine srn 5 ⟨36, [sp 4 30401, sI 5 v6, sI 6 (0 : Int), e33d18 w, sI 38 i, e33d23], [e33d0 g, e33d8 l30400, e33d1 g w]⟩ (by kernel_rfl) rfl ?_
      refine aw_ret ?_
      refine inlR_r (ob := (True ∧ True ∧ True ∧ True)) (.tup [.c (.ptr 30401 0), .c (.pI v6), .c (.pI (0 : Int))]) (by kernel_rfl) ⟨trivial, trivial, trivial, trivial⟩ rfl ?_
      refine lpr (st' := (⟨39, [e33d16 w, sI 2 i, sp 3 30000, (14, [], .tup [.c (.ptr 30401 0), .c (.pI v6), .c (.pI (0 : Int))])], [e33d0 g, e33d8 l30400, e33d1 g w]⟩ : St)) (by kernel_rfl) ?_
      refine rqT 7 ⟨39, [e33d16 w, sI 2 i, sp 3 30000, sp 8 30401, sI 9 v6, sI 10 (0 : Int)], [e33d0 g, e33d8 l30400, e33d1 g w]⟩ (by kernel_rfl) ?_
      refine nn ?_
      refine aw_seq ?_
      refine srn 2 ⟨39, [e33d16 w, sI 2 i, sp 3 30000, sp 8 30401, sI 9 v6, sI 10 (0 : Int), sB 19 (!decide ((0 : Int) = (0 : Int)))], [e33d0 g, e33d8 l30400, e33d1 g w]⟩ (by kernel_rfl) rfl ?_
      refine aw_cond (b := (!decide ((0 : Int) = (0 : Int)))) (by kernel_rfl) (fun hb => ?_) (fun hb => ?_)
      ·have h := h.1 hb
       refine srn 3 ⟨39, [s1 6 (.nils), sI 7 (0 : Int)], []⟩ (by kernel_rfl) rfl ?_
       refine aw_ret ?_
       refine thenQ_r ?_
       exact retQ_r (ob := Ts 2 True) _ (by kernel_rfl) (tsI 2 trivial) h
      ·have h := h.2 hb
       refine aw_skip ?_
       refine thenQ_n ?_
       refine aw_seq ?_
       refine sr ?_
       refine rq 7 (ob := (Ts 3 (Ti 3 ((decide (i < (0 : Int))) = false → True) (Ts 1 True)))) (st' := (⟨39, [e33d16 w, sI 2 i, sp 3 30000, sp 8 30401, sB 27 ((decide (i < (0 : Int))) || (decide (v6 ≤ i)))], [e33d0 g, e33d8 l30400, e33d1 g w]⟩ : St)) (by kernel_rfl) (tsI 3 (tiI 3 (fun _ => trivial) (tsI 1 trivial))) ?_
       refine nn ?_
       refine aw_cond (b := ((decide (i < (0 : Int))) || (decide (v6 ≤ i)))) (by kernel_rfl) (fun hb => ?_) (fun hb => ?_)
       ·have h := h.1 hb
        refine srn 2 ⟨39, [s1 6 (.nils), sI 7 (5 : Int)], []⟩ (by kernel_rfl) rfl ?_
        refine aw_ret ?_
        refine thenQ_r ?_
        exact retQ_r (ob := Ts 2 True) _ (by kernel_rfl) (tsI 2 trivial) h
       ·have h := h.2 hb
        refine aw_skip ?_
        refine thenQ_n ?_
        refine sr ?_
        obtain ⟨o1, h⟩ := h
        refine rq 10 (ob := (Ts 5 (InR (g.1 + g.2.2.1) ∧ Ts 4 True))) (st' := (⟨39, [sp 28 30401, sI 33 (g.1 + g.2.2.1), e33d28 w, sI 37 i], [e33d8 l30400, e33d1 g w]⟩ : St)) (by kernel_rfl) (tsI 5 ⟨o1, tsI 4 trivial⟩) ?_
        refine awl_conv [.ren 30401 70100, .ren 30400 70101] (st' := (⟨39, [sp 28 70100, sI 33 (g.1 + g.2.2.1), e33d28 w, sI 37 i], [e33d19 l30400, e33d3 g w]⟩ : St)) (by kernel_rfl) ?_
        refine awl_lcall (σ := LI × LK) [70100, 70101] [70100] [.c (.ptr 70100 0), .c (.pI (g.1 + g.2.2.1)), .agg [.pI (0 : Int), .pI (w.length : Int)], .c (.pI i)] [] (fun ret38v => .v (.c (.pS ret38v.1))) (fun ret38v => [e33d3 g w, (70101, [], .dict (.pr tI t3) tI ret38v.2)]) (_) [e33d3 g w, e33d19 l30400] (fun ret38v => (⟨39, [s1 38 (.pS ret38v.1), sp 28 70100, sI 33 (g.1 + g.2.2.1), e33d28 w, sI 37 i], [e33d3 g w, (70101, [], .dict (.pr tI t3) tI ret38v.2)]⟩ : St)) rfl rfl (by kernel_rfl) rfl (by kernel_rfl) Try.call67 (by kernel_rfl) (by kernel_rfl) (by kernel_rfl) (fun _ _ => rfl) (fun _ => by kernel_rfl) (linkcr67 g.1 g.2.1 g.2.2.1 g.2.2.2 w (g.1 + g.2.2.1) (0 : Int) (w.length : Int) i l30400 _ h) (fun ret38v h => ?_)
        refine lpr (st' := (⟨39, [s1 38 (.pS ret38v.1)], []⟩ : St)) (by kernel_rfl) ?_
        refine rqT 2 ⟨39, [s1 6 (.pS ret38v.1), sI 7 (0 : Int)], []⟩ (by kernel_rfl) ?_
        refine nn ?_
        refine aw_ret ?_
        exact retQ_r (ob := Ts 2 True) _ (by kernel_rfl) (tsI 2 trivial) h
    ·refine srn 2 ⟨87, [e33d29, e33d11 g, sp 5 5, e33d21, e33d10 w, sI 125 i, e33d14], [e33d7 w, e33d0 g, e33d4, e33d1 g w]⟩ (by kernel_rfl) rfl ?_
     refine aw_seq ?_
     refine srn 7 ⟨87, [e33d29, e33d11 g, sp 5 5, sB 19 (decide ((g.1 + g.2.2.1) < g.1)), e33d21, e33d10 w, sI 125 i, e33d14], [e33d7 w, e33d0 g, e33d4, e33d1 g w]⟩ (by kernel_rfl) rfl ?_
     refine aw_cond (b := (decide ((g.1 + g.2.2.1) < g.1))) (by kernel_rfl) (fun hb => ?_) (fun hb => ?_)
     ·have h := h.1 hb
      refine aw_seq ?_
      refine aw_seq ?_
      refine awd_begin [] (by kernel_rfl) ?_
      obtain ⟨o1, o2, h⟩ := h
      refine drq (by kernel_rfl) [0, 1, 2, 3, 4, 5, 6, 7, 8, 9, 10, 11, 12, 13, 14, 15, 16, 17] (ob := (Ts 4 (InR ((0 : Int) + (1 : Int)) ∧ Ts 2 (Ti 6 ((decide ((w.length : Int) = ((0 : Int) + (1 : Int)))) = true → True) (((decide ((w.length : Int) = ((0 : Int) + (1 : Int)))) = true → inIdx (0 : Int) w.length) ∧ Ti 3 ((decide ((w.length : Int) = ((0 : Int) + (1 : Int)))) = true → True) (Ts 1 True)))))) (done' := [17, 16, 15, 14, 13, 12, 11, 10, 9, 8, 7, 6, 5, 4, 3, 2, 1, 0]) (st' := (⟨87, [sB 37 ((decide ((w.length : Int) = ((0 : Int) + (1 : Int)))) && (decide ((w.getD ((0 : Int)).toNat (0 : Int)) = (g.1 + g.2.2.1)))), e33d21, e33d10 w, sI 125 i, e33d14], [e33d0 g, e33d4, e33d1 g w]⟩ : St)) (by kernel_rfl) (tsI 4 (⟨o1, tsI 2 (tiI 6 (fun _ => trivial) ⟨o2, tiI 3 (fun _ => trivial) (tsI 1 trivial)⟩)⟩)) ?_
      refine awd_done (by kernel_rfl) ?_
      refine thenQ_n ?_
      refine aw_cond (b := ((decide ((w.length : Int) = ((0 : Int) + (1 : Int)))) && (decide ((w.getD ((0 : Int)).toNat (0 : Int)) = (g.1 + g.2.2.1))))) (by kernel_rfl) (fun hb => ?_) (fun hb => ?_)
      ·have h := h.1 hb
       refine srn 1 ⟨87, [sI 6 (1 : Int), e33d21, e33d10 w, sI 125 i, e33d14], [e33d0 g, e33d4, e33d1 g w]⟩ (by kernel_rfl) rfl ?_
       refine aw_ret ?_
       refine thenQ_r ?_
       refine thenQ_r ?_
       exact rest2 ((1 : Int), ([] : List ((Int × (Int × (Int × Int))) × Int))) h
      ·have h := h.2 hb
       refine aw_skip ?_
       refine thenQ_n ?_
       refine srn 1 ⟨87, [sI 6 (0 : Int), e33d21, e33d10 w, sI 125 i, e33d14], [e33d0 g, e33d4, e33d1 g w]⟩ (by kernel_rfl) rfl ?_
       refine aw_ret ?_
       refine thenQ_r ?_
       exact rest2 ((0 : Int), ([] : List ((Int × (Int × (Int × Int))) × Int))) h
     ·have h := h.2 hb
      refine aw_skip ?_
      refine thenQ_n ?_
      refine srn 5 ⟨87, [e33d29, e33d11 g, sp 5 5, sp 7 7, e33d21, e33d10 w, sI 125 i, e33d14], [e33d7 w, e33d2 g w, e33d0 g, e33d4, e33d1 g w]⟩ (by kernel_rfl) rfl ?_
      refine aw_seq ?_
      refine aw_seq ?_
      refine awd_begin [] (by kernel_rfl) ?_
      refine drq (by kernel_rfl) [0, 1, 2, 3, 4, 5, 6, 7, 8, 9, 10] (ob := (Ts 11 True)) (done' := [10, 9, 8, 7, 6, 5, 4, 3, 2, 1, 0]) (st' := (⟨87, [e33d29, e33d11 g, sp 5 5, sp 7 7, e33d20 g w, sB 9 ((mget ([] : List ((Int × (Int × (Int × Int))) × Int)) ((-1 : Int), ((g.1 + g.2.2.1), ((0 : Int), (w.length : Int))))).isSome), e33d21, e33d10 w, sI 125 i, e33d14], [e33d7 w, e33d2 g w, e33d0 g, e33d4, e33d1 g w]⟩ : St)) (by kernel_rfl) (tsI 11 trivial) ?_
      refine awd_done (by kernel_rfl) ?_
      refine thenQ_n ?_
      refine srn 1 ⟨87, [e33d29, e33d11 g, sp 5 5, sp 7 7, e33d20 g w, sB 50 ((mget ([] : List ((Int × (Int × (Int × Int))) × Int)) ((-1 : Int), ((g.1 + g.2.2.1), ((0 : Int), (w.length : Int))))).isSome), e33d21, e33d10 w, sI 125 i, e33d14], [e33d7 w, e33d2 g w, e33d0 g, e33d4, e33d1 g w]⟩ (by kernel_rfl) rfl ?_
      refine aw_cond (b := (mget ([] : List ((Int × (Int × (Int × Int))) × Int)) ((-1 : Int), ((g.1 + g.2.2.1), ((0 : Int), (w.length : Int))))).isSome) (by kernel_rfl) (fun hb => ?_) (fun hb => ?_)
      ·have h := h.1 hb
       refine srn 2 ⟨87, [sI 6 ((mget ([] : List ((Int × (Int × (Int × Int))) × Int)) ((-1 : Int), ((g.1 + g.2.2.1), ((0 : Int), (w.length : Int))))).getD (0 : Int)), e33d21, e33d10 w, sI 125 i, e33d14], [e33d0 g, e33d4, e33d1 g w]⟩ (by kernel_rfl) rfl ?_
       refine aw_ret ?_
       refine thenQ_r ?_
       exact rest2 (((mget ([] : List ((Int × (Int × (Int × Int))) × Int)) ((-1 : Int), ((g.1 + g.2.2.1), ((0 : Int), (w.length : Int))))).getD (0 : Int)), ([] : List ((Int × (Int × (Int × Int))) × Int))) h
      ·have h := h.2 hb
       refine aw_skip ?_
       refine thenQ_n ?_
       refine srn 1 ⟨87, [e33d29, e33d11 g, sp 5 5, sp 7 7, sI 10 (0 : Int), e33d21, e33d10 w, sI 125 i, e33d14], [e33d7 w, e33d2 g w, e33d0 g, e33d4, e33d1 g w]⟩ (by kernel_rfl) rfl ?_
       refine aw_seq ?_
       refine srn 7 ⟨87, [e33d29, e33d11 g, sp 5 5, sp 7 7, sI 10 (0 : Int), e33d6 g, e33d13 g, sI 58 (0 : Int), e33d21, e33d10 w, sI 125 i, e33d14], [e33d7 w, e33d2 g w, e33d0 g, e33d4, e33d1 g w]⟩ (by kernel_rfl) rfl ?_
       refine withJoin (σ := Int × LK) (fun s => (⟨87, [e33d29, sp 7 7, sI 10 s.1, e33d21, e33d10 w, sI 125 i, e33d14], [e33d2 g w, e33d0 g, (30400, [], .dict (.pr tI t3) tI s.2), e33d1 g w]⟩ : St)) (fun s => VC33_k3 g w i K s.1 s.2) (fun s h => ?_) (fun rest3 => ?_)
       ·obtain ⟨n, l30400⟩ := s
        have h : VC33_k3 g w i K n l30400 := h
        unfold VC33_k3 at h
        refine thenQ_n ?_
        refine aw_seq ?_
        refine awd_begin [30400] (by kernel_rfl) ?_
        refine drq (by kernel_rfl) [0, 1, 2, 3, 4, 5] (ob := (Ts 6 True)) (done' := [5, 4, 3, 2, 1, 0]) (st' := (⟨87, [sI 10 n, s1 83 (.own 30400), sA 84 [.pI (-1 : Int), .pI (g.1 + g.2.2.1), .pI (0 : Int), .pI (w.length : Int)], sI 85 n, e33d21, e33d10 w, sI 125 i, e33d14], [e33d0 g, e33d8 l30400, e33d1 g w]⟩ : St)) (by kernel_rfl) (tsI 6 trivial) ?_
        refine awd_one (i := 6) (by kernel_rfl) ?_
        refine dsq (ob := True) (st' := (⟨87, [sI 10 n, e33d21, e33d10 w, sI 125 i, e33d14], [e33d0 g, e33d22 l30400 g w n, e33d1 g w]⟩ : St)) rfl (by kernel_rfl) trivial ?_
        refine awd_done (by kernel_rfl) ?_
        refine thenQ_n ?_
        refine srn 2 ⟨87, [sI 6 n, e33d21, e33d10 w, sI 125 i, e33d14], [e33d0 g, e33d22 l30400 g w n, e33d1 g w]⟩ (by kernel_rfl) rfl ?_
        refine aw_ret ?_
        exact rest2 (n, (mset l30400 ((-1 : Int), ((g.1 + g.2.2.1), ((0 : Int), (w.length : Int)))) n)) h
       ·refine aw_block ?_
        refine aw_loop (σ := Int × Int × LK) (fun s => (⟨87, [e33d29, e33d11 g, sp 5 5, sp 7 7, sI 10 s.1, e33d6 g, e33d13 g, sI 58 s.2.1, e33d21, e33d10 w, sI 125 i, e33d14], [e33d7 w, e33d2 g w, e33d0 g, (30400, [], .dict (.pr tI t3) tI s.2.2), e33d1 g w]⟩ : St)) (fun s X => VC33_l1 g w i K s.1 s.2.1 s.2.2 X) (s0 := ((0 : Int), (0 : Int), ([] : List ((Int × (Int × (Int × Int))) × Int)))) (fun s X1 h => ?_) h
        obtain ⟨n, v58, l30400⟩ := s
        have h : VC33_l1 g w i K n v58 l30400 X1 := h
        unfold VC33_l1 at h
        refine srn 1 ⟨87, [e33d29, e33d11 g, sp 5 5, sp 7 7, sI 10 n, e33d6 g, e33d13 g, sI 58 v58, sB 59 (decide (v58 < (g.2.2.2.length : Int))), e33d21, e33d10 w, sI 125 i, e33d14], [e33d7 w, e33d2 g w, e33d0 g, e33d8 l30400, e33d1 g w]⟩ (by kernel_rfl) rfl ?_
        refine aw_seq ?_
        refine aw_cond (b := (decide (v58 < (g.2.2.2.length : Int)))) (by kernel_rfl) (fun hb => ?_) (fun hb => ?_)
        ·have h := h.1 hb
         refine aw_skip ?_
         refine thenQ_n ?_
         refine aw_seq ?_
         refine aw_block ?_
         refine sr ?_
         obtain ⟨o1, h⟩ := h
         refine rq 6 (ob := (Ts 1 (inIdx v58 g.2.2.2.length ∧ Ts 4 True))) (st' := (⟨87, [e33d29, e33d11 g, sp 5 5, sp 7 7, sI 10 n, sI 11 v58, sp 12 12, e33d6 g, e33d13 g, sI 58 v58, e33d21, e33d10 w, sI 125 i, e33d14], [e33d7 w, e33d2 g w, hB 12 [.pI ((g.2.2.2.getD (v58).toNat ((0 : Int), ([] : LI))).1), .pS ((g.2.2.2.getD (v58).toNat ((0 : Int), ([] : LI))).2)], e33d0 g, e33d8 l30400, e33d1 g w]⟩ : St)) (by kernel_rfl) (tsI 1 ⟨o1, tsI 4 trivial⟩) ?_
         refine nn ?_
         refine aw_seq ?_
         refine awd_begin [] (by kernel_rfl) ?_
         obtain ⟨o1, h⟩ := h
         refine drq (by kernel_rfl) [0, 1, 2, 3, 4, 5, 6, 7, 8, 9] (ob := (Ts 8 (InR ((g.1 + g.2.2.1) - g.1) ∧ Ts 1 True))) (done' := [9, 8, 7, 6, 5, 4, 3, 2, 1, 0]) (st' := (⟨87, [e33d29, e33d11 g, sp 5 5, sp 7 7, sI 10 n, sI 11 v58, e33d6 g, e33d13 g, sI 58 v58, sB 72 (decide ((g.2.2.2.getD (v58).toNat ((0 : Int), ([] : LI))).1 = ((g.1 + g.2.2.1) - g.1))), e33d21, e33d10 w, sI 125 i, e33d14], [e33d7 w, e33d2 g w, e33d0 g, e33d8 l30400, e33d1 g w]⟩ : St)) (by kernel_rfl) (tsI 8 ⟨o1, tsI 1 trivial⟩) ?_
         refine awd_done (by kernel_rfl) ?_
         refine thenQ_n ?_
         refine withJoin (σ := Int × LK) (fun s => (⟨87, [sp 0 70100, e33d11 g, sp 5 5, sp 7 7, sI 10 s.1, e33d6 g, e33d13 g, sI 58 v58, sp 95 70100, e33d10 w, sI 125 i, e33d14], [e33d7 w, e33d2 g w, e33d0 g, e33d3 g w, (70101, [], .dict (.pr tI t3) tI s.2)]⟩ : St)) (fun s => VC33_k4 v58 X1 s.1 s.2) (fun s h => ?_) (fun rest4 => ?_)
         ·obtain ⟨n2, l70101⟩ := s
          have h : VC33_k4 v58 X1 n2 l70101 := h
          unfold VC33_k4 at h
          refine blockQ_n ?_
          refine thenQ_n ?_
          refine aw_region ?_
          obtain ⟨o1, h⟩ := h
          refine rq 2 (ob := (InR (v58 + (1 : Int)) ∧ Ts 1 True)) (st' := (⟨87, [sp 0 70100, e33d11 g, sp 5 5, sp 7 7, sI 10 n2, e33d6 g, e33d13 g, sI 58 (v58 + (1 : Int)), sp 95 70100, e33d10 w, sI 125 i, e33d14], [e33d7 w, e33d2 g w, e33d0 g, e33d3 g w, (70101, [], .dict (.pr tI t3) tI l70101)]⟩ : St)) (by kernel_rfl) (⟨o1, tsI 1 trivial⟩) ?_
          refine awl_conv [.ren 70100 90100, .ren 70101 90101, .ren 90100 30401, .ren 90101 30400, .prune e33dn0 [5, 7, 30000, 30400, 30401]] (st' := (⟨87, [e33d29, e33d11 g, sp 5 5, sp 7 7, sI 10 n2, e33d6 g, e33d13 g, sI 58 (v58 + (1 : Int)), e33d21, e33d10 w, sI 125 i, e33d14], [e33d7 w, e33d2 g w, e33d0 g, (30400, [], .dict (.pr tI t3) tI l70101), e33d1 g w]⟩ : St)) (by kernel_rfl) ?_
          refine awl_nil ?_
          exact thenQ_n ⟨(n2, (v58 + (1 : Int)), l70101), rfl, h⟩
         ·refine aw_cond (b := (decide ((g.2.2.2.getD (v58).toNat ((0 : Int), ([] : LI))).1 = ((g.1 + g.2.2.1) - g.1)))) (by kernel_rfl) (fun hb => ?_) (fun hb => ?_)
          ·have h := h.1 hb
           refine aw_region ?_
           refine rqT 4 ⟨87, [e33d29, e33d11 g, sp 5 5, sp 7 7, e33d6 g, e33d13 g, sI 58 v58, sI 73 n, sp 74 30401, sI 75 v58, e33d30 w, e33d21, e33d10 w, sI 125 i, e33d14], [e33d7 w, e33d2 g w, e33d0 g, e33d8 l30400, e33d1 g w]⟩ (by kernel_rfl) ?_
           refine awl_conv [.ren 30401 70100, .ren 30400 70101] (st' := (⟨87, [sp 0 70100, e33d11 g, sp 5 5, sp 7 7, e33d6 g, e33d13 g, sI 58 v58, sI 73 n, sp 74 70100, sI 75 v58, e33d30 w, sp 95 70100, e33d10 w, sI 125 i, e33d14], [e33d7 w, e33d2 g w, e33d0 g, e33d19 l30400, e33d3 g w]⟩ : St)) (by kernel_rfl) ?_
           refine awl_lcall (σ := Int × LK) [70100, 70101] [70100] [.c (.ptr 70100 0), .c (.pI v58), .c (.pI (0 : Int)), .agg [.pI (0 : Int), .pI (w.length : Int)]] [] (fun ret77v => .v (.c (.pI ret77v.1))) (fun ret77v => [e33d3 g w, e33d17 ret77v]) (_) [e33d3 g w, e33d19 l30400] (fun ret77v => (⟨87, [sI 77 ret77v.1, sp 0 70100, e33d11 g, sp 5 5, sp 7 7, e33d6 g, e33d13 g, sI 58 v58, sI 73 n, sp 74 70100, sI 75 v58, e33d30 w, sp 95 70100, e33d10 w, sI 125 i, e33d14], [e33d3 g w, e33d17 ret77v, e33d7 w, e33d2 g w, e33d0 g]⟩ : St)) rfl rfl (by kernel_rfl) rfl (by kernel_rfl) Try.call100 (by kernel_rfl) (by kernel_rfl) (by kernel_rfl) (fun _ _ => rfl) (fun _ => by kernel_rfl) (linkcr100 g.1 g.2.1 g.2.2.1 g.2.2.2 w v58 (0 : Int) (0 : Int) (w.length : Int) l30400 _ h) (fun ret77v h => ?_)
           refine lpr (st' := (⟨87, [sp 0 70100, e33d11 g, sp 5 5, sp 7 7, e33d6 g, e33d13 g, sI 58 v58, sI 73 n, sI 77 ret77v.1, sp 95 70100, e33d10 w, sI 125 i, e33d14], [e33d7 w, e33d2 g w, e33d0 g, e33d3 g w, e33d17 ret77v]⟩ : St)) (by kernel_rfl) ?_
           refine lcq (d := 78) [.d tI, .d tI] (fun ret78v => (⟨87, [sp 0 70100, e33d11 g, sp 5 5, sp 7 7, e33d6 g, e33d13 g, sI 58 v58, sI 78 ret78v, sp 95 70100, e33d10 w, sI 125 i, e33d14], [e33d7 w, e33d2 g w, e33d0 g, e33d3 g w, e33d17 ret77v]⟩ : St)) (by kernel_rfl) Try.call109 (fun _ => by kernel_rfl) (link109 n ret77v.1 _ h) (fun ret78v h => ?_)
           refine rqT 1 ⟨87, [sp 0 70100, e33d11 g, sp 5 5, sp 7 7, sI 10 ret78v, e33d6 g, e33d13 g, sI 58 v58, sp 95 70100, e33d10 w, sI 125 i, e33d14], [e33d7 w, e33d2 g w, e33d0 g, e33d3 g w, e33d17 ret77v]⟩ (by kernel_rfl) ?_
           refine awl_nil ?_
           exact rest4 (ret78v, ret77v.2) h
          ·have h := h.2 hb
           refine aw_conv [.prune e33dn0 [5, 7, 30000, 30400, 30401], .ren 30401 50401, .ren 30400 50400, .ren 50401 70100, .ren 50400 70101, .prune e33dn0 [5, 7, 30000, 70100, 70101]] (st' := (⟨87, [sp 0 70100, e33d11 g, sp 5 5, sp 7 7, sI 10 n, e33d6 g, e33d13 g, sI 58 v58, sp 95 70100, e33d10 w, sI 125 i, e33d14], [e33d7 w, e33d2 g w, e33d0 g, e33d3 g w, e33d19 l30400]⟩ : St)) (by kernel_rfl) ?_
           refine aw_skip ?_
           exact rest4 (n, l30400) h
        ·have h := h.2 hb
         refine cpr (st' := (⟨87, [e33d29, sp 7 7, sI 10 n, e33d21, e33d10 w, sI 125 i, e33d14], [e33d2 g w, e33d0 g, e33d8 l30400, e33d1 g w]⟩ : St)) (by kernel_rfl) ?_
         refine aw_exit ?_
         refine thenQ_x ?_
         refine thenQ_x ?_
         refine blockQ_hit ?_
         exact rest3 (n, l30400) h
abbrev e43_0 (g : TG) : Nat × Path × Con := hB 2 [.pI g.1, .pI g.2.1, .pI g.2.2.1, .p (.sl tR) g.2.2.2]
abbrev e43_1 (l : LI) : Nat × Path × AV := sI 8 (l.length : Int)
-- coppicer/coppicerref.Signs
def VC43_k1 (K : Bool → Prop) : Prop :=
  K true
def VC43_l1 (g : TG) (l : LI) (K : Bool → Prop) (v9 : Int) (X1 : Int → Prop) : Prop :=
  (((decide (v9 < (l.length : Int))) = true → (inIdx v9 l.length ∧ (((decide ((l.getD (v9).toNat (0 : Int)) < (0 : Int))) = false → InR (g.1 + g.2.1)) ∧ ((((decide ((l.getD (v9).toNat (0 : Int)) < (0 : Int))) || (decide ((g.1 + g.2.1) ≤ (l.getD (v9).toNat (0 : Int))))) = true → K false) ∧ (((decide ((l.getD (v9).toNat (0 : Int)) < (0 : Int))) || (decide ((g.1 + g.2.1) ≤ (l.getD (v9).toNat (0 : Int))))) = false → (InR (v9 + (1 : Int)) ∧ X1 (v9 + (1 : Int)))))))) ∧ ((decide (v9 < (l.length : Int))) = false → VC43_k1 K))
def VC43 (g : TG) (l : LI) (K : Bool → Prop) : Prop :=
  Loop (σ := Int) (fun s X => VC43_l1 g l K s X) (0 : Int)
set_option maxHeartbeats 4000000 in
theorem link43 (g : TG) (l : LI) (K : Bool → Prop) (h : VC43 g l K) : ACalls Try.prog 43 [toV1 tG g, toV1 (.sl tI) l] (fun res => ∃ y, res = (fun y => [toV1 .bool y]) y ∧ K y) := by
 refine acalls_of_aw [.bool] [.t 4] Try.func43 rfl rfl rfl ?_
 unfold VC43 at h
 refine srn 2 ⟨25, [s1 1 (.pS l), sp 2 2], [e43_0 g]⟩ (by kernel_rfl) rfl ?_
 refine aw_seq ?_
 refine srn 3 ⟨25, [sp 2 2, s1 7 (.pS l), e43_1 l, sI 9 (0 : Int)], [e43_0 g]⟩ (by kernel_rfl) rfl ?_
 refine withJoin (σ := Unit) (fun s => (⟨25, [], []⟩ : St)) (fun s => VC43_k1 K) (fun s h => ?_) (fun rest1 => ?_)
 ·have h : VC43_k1 K := h
  unfold VC43_k1 at h
  refine thenQ_n ?_
  refine srn 1 ⟨25, [sB 4 true], []⟩ (by kernel_rfl) rfl ?_
  refine aw_ret ?_
  exact retQ_r (ob := Ts 1 True) _ (by kernel_rfl) (tsI 1 trivial) h
 ·refine aw_block ?_
  refine aw_loop (σ := Int) (fun s => (⟨25, [sp 2 2, s1 7 (.pS l), e43_1 l, sI 9 s], [e43_0 g]⟩ : St)) (fun s X => VC43_l1 g l K s X) (s0 := (0 : Int)) (fun v9 X1 h => ?_) h
  have h : VC43_l1 g l K v9 X1 := h
  unfold VC43_l1 at h
  refine srn 1 ⟨25, [sp 2 2, s1 7 (.pS l), e43_1 l, sI 9 v9, sB 10 (decide (v9 < (l.length : Int)))], [e43_0 g]⟩ (by kernel_rfl) rfl ?_
  refine aw_seq ?_
  refine aw_cond (b := (decide (v9 < (l.length : Int)))) (by kernel_rfl) (fun hb => ?_) (fun hb => ?_)
  ·have h := h.1 hb
   refine aw_skip ?_
   refine thenQ_n ?_
   refine aw_seq ?_
   refine aw_block ?_
   refine sr ?_
   obtain ⟨o1, h⟩ := h
   refine rq 3 (ob := (inIdx v9 l.length ∧ Ts 2 True)) (st' := (⟨25, [sp 2 2, sI 6 (l.getD (v9).toNat (0 : Int)), s1 7 (.pS l), e43_1 l, sI 9 v9], [e43_0 g]⟩ : St)) (by kernel_rfl) (⟨o1, tsI 2 trivial⟩) ?_
   refine nsr ?_
   obtain ⟨o1, h⟩ := h
   refine rq 11 (ob := (Ts 3 (Ti 5 ((decide ((l.getD (v9).toNat (0 : Int)) < (0 : Int))) = false → True) (((decide ((l.getD (v9).toNat (0 : Int)) < (0 : Int))) = false → InR (g.1 + g.2.1)) ∧ ((decide ((l.getD (v9).toNat (0 : Int)) < (0 : Int))) = false → True) ∧ Ts 1 True)))) (st' := (⟨25, [sp 2 2, s1 7 (.pS l), e43_1 l, sI 9 v9, sB 23 ((decide ((l.getD (v9).toNat (0 : Int)) < (0 : Int))) || (decide ((g.1 + g.2.1) ≤ (l.getD (v9).toNat (0 : Int)))))], [e43_0 g]⟩ : St)) (by kernel_rfl) (tsI 3 (tiI 5 (fun _ => trivial) (⟨o1, ⟨(fun _ => trivial), tsI 1 trivial⟩⟩))) ?_
   refine nn ?_
   refine aw_cond (b := ((decide ((l.getD (v9).toNat (0 : Int)) < (0 : Int))) || (decide ((g.1 + g.2.1) ≤ (l.getD (v9).toNat (0 : Int)))))) (by kernel_rfl) (fun hb => ?_) (fun hb => ?_)
   ·have h := h.1 hb
    refine srn 1 ⟨25, [sB 4 false], []⟩ (by kernel_rfl) rfl ?_
    refine aw_ret ?_
    refine blockQ_r ?_
    refine thenQ_r ?_
    refine thenQ_r ?_
    refine blockQ_r ?_
    refine thenQ_r ?_
    exact retQ_r (ob := Ts 1 True) _ (by kernel_rfl) (tsI 1 trivial) h
   ·have h := h.2 hb
    refine aw_skip ?_
    refine blockQ_n ?_
    refine thenQ_n ?_
    refine aw_region ?_
    obtain ⟨o1, h⟩ := h
    refine rq 2 (ob := (InR (v9 + (1 : Int)) ∧ Ts 1 True)) (st' := (⟨25, [sp 2 2, s1 7 (.pS l), e43_1 l, sI 9 (v9 + (1 : Int))], [e43_0 g]⟩ : St)) (by kernel_rfl) (⟨o1, tsI 1 trivial⟩) ?_
    refine awl_nil ?_
    exact thenQ_n ⟨(v9 + (1 : Int)), rfl, h⟩
  ·have h := h.2 hb
   refine cpr (st' := (⟨25, [], []⟩ : St)) (by kernel_rfl) ?_
   refine aw_exit ?_
   refine thenQ_x ?_
   refine thenQ_x ?_
   refine blockQ_hit ?_
   exact rest1 () h
abbrev e18_0 (g : TG) : Nat × Path × Con := hB 1 [.pI g.1, .pI g.2.1, .pI g.2.2.1, .p (.sl tR) g.2.2.2]
abbrev e18_1 (g : TG) : Nat × Path × AV := s1 54 (.p (.sl tR) g.2.2.2)
abbrev e18_2 (g : TG) : Nat × Path × AV := s1 32 (.p (.sl tR) g.2.2.2)
abbrev e18_3 (g : TG) (v56 : Int) : Nat × Path × AV := sB 70 ((decide ((g.2.2.2.getD (v56).toNat ((0 : Int), ([] : LI))).1 < (0 : Int))) || (decide (g.2.1 ≤ (g.2.2.2.getD (v56).toNat ((0 : Int), ([] : LI))).1)))
abbrev e18_4 (g : TG) : Nat × Path × AV := sI 55 (g.2.2.2.length : Int)
abbrev e18_5 (g : TG) : Nat × Path × AV := sI 33 (g.2.2.2.length : Int)
-- coppicer/coppicerref.GrammarCheck
def VC18_k2 (K : Int → Prop) : Prop :=
  K (0 : Int)
def VC18_l1 (g : TG) (K : Int → Prop) (v56 : Int) (X1 : Int → Prop) : Prop :=
  (((decide (v56 < (g.2.2.2.length : Int))) = true → (inIdx v56 g.2.2.2.length ∧ gcall (α := Bool) (!((decide ((g.2.2.2.getD (v56).toNat ((0 : Int), ([] : LI))).1 < (0 : Int))) || (decide (g.2.1 ≤ (g.2.2.2.getD (v56).toNat ((0 : Int), ([] : LI))).1)))) (VC43 g ((g.2.2.2.getD (v56).toNat ((0 : Int), ([] : LI))).2)) false (fun (ret74v : Bool) => (((((decide ((g.2.2.2.getD (v56).toNat ((0 : Int), ([] : LI))).1 < (0 : Int))) || (decide (g.2.1 ≤ (g.2.2.2.getD (v56).toNat ((0 : Int), ([] : LI))).1))) || (!ret74v)) = true → K (2 : Int)) ∧ ((((decide ((g.2.2.2.getD (v56).toNat ((0 : Int), ([] : LI))).1 < (0 : Int))) || (decide (g.2.1 ≤ (g.2.2.2.getD (v56).toNat ((0 : Int), ([] : LI))).1))) || (!ret74v)) = false → (InR (v56 + (1 : Int)) ∧ X1 (v56 + (1 : Int)))))))) ∧ ((decide (v56 < (g.2.2.2.length : Int))) = false → VC18_k2 K))
def VC18_k1 (g : TG) (K : Int → Prop) : Prop :=
  ((((decide (g.2.2.1 < (0 : Int))) || (decide (g.2.1 ≤ g.2.2.1))) = true → K (2 : Int)) ∧ (((decide (g.2.2.1 < (0 : Int))) || (decide (g.2.1 ≤ g.2.2.1))) = false → Loop (σ := Int) (fun s X => VC18_l1 g K s X) (0 : Int)))
def VC18_l2 (g : TG) (K : Int → Prop) (v34 : Int) (X2 : Int → Prop) : Prop :=
  (((decide (v34 < (g.2.2.2.length : Int))) = true → (inIdx v34 g.2.2.2.length ∧ (((decide ((4 : Int) < (((g.2.2.2.getD (v34).toNat ((0 : Int), ([] : LI))).2).length : Int))) = true → K (1 : Int)) ∧ ((decide ((4 : Int) < (((g.2.2.2.getD (v34).toNat ((0 : Int), ([] : LI))).2).length : Int))) = false → (InR (v34 + (1 : Int)) ∧ X2 (v34 + (1 : Int))))))) ∧ ((decide (v34 < (g.2.2.2.length : Int))) = false → VC18_k1 g K))
def VC18 (g : TG) (K : Int → Prop) : Prop :=
  (((((((decide (g.1 < (1 : Int))) || (decide ((3 : Int) < g.1))) || (decide (g.2.1 < (1 : Int)))) || (decide ((5 : Int) < g.2.1))) || (decide ((10 : Int) < (g.2.2.2.length : Int)))) = true → K (1 : Int)) ∧ ((((((decide (g.1 < (1 : Int))) || (decide ((3 : Int) < g.1))) || (decide (g.2.1 < (1 : Int)))) || (decide ((5 : Int) < g.2.1))) || (decide ((10 : Int) < (g.2.2.2.length : Int)))) = false → Loop (σ := Int) (fun s X => VC18_l2 g K s X) (0 : Int)))
set_option maxHeartbeats 4000000 in
theorem link18 (g : TG) (K : Int → Prop) (h : VC18 g K) : ACalls Try.prog 18 [toV1 tG g] (fun res => ∃ y, res = (fun y => [toV1 tI y]) y ∧ K y) := by
 refine acalls_of_aw [tI] [.t 2] Try.func18 rfl rfl rfl ?_
 unfold VC18 at h
 refine srn 2 ⟨78, [sp 1 1], [e18_0 g]⟩ (by kernel_rfl) rfl ?_
 refine aw_seq ?_
 refine sr ?_
 refine rq 24 (ob := (Ts 4 (Ti 3 ((decide (g.1 < (1 : Int))) = false → True) (Ts 2 (Ti 3 (((decide (g.1 < (1 : Int))) || (decide ((3 : Int) < g.1))) = false → True) (Ts 2 (Ti 3 ((((decide (g.1 < (1 : Int))) || (decide ((3 : Int) < g.1))) || (decide (g.2.1 < (1 : Int)))) = false → True) (Ts 2 (Ti 4 (((((decide (g.1 < (1 : Int))) || (decide ((3 : Int) < g.1))) || (decide (g.2.1 < (1 : Int)))) || (decide ((5 : Int) < g.2.1))) = false → True) (Ts 1 True)))))))))) (st' := (⟨78, [sp 1 1, sB 30 (((((decide (g.1 < (1 : Int))) || (decide ((3 : Int) < g.1))) || (decide (g.2.1 < (1 : Int)))) || (decide ((5 : Int) < g.2.1))) || (decide ((10 : Int) < (g.2.2.2.length : Int))))], [e18_0 g]⟩ : St)) (by kernel_rfl) (tsI 4 (tiI 3 (fun _ => trivial) (tsI 2 (tiI 3 (fun _ => trivial) (tsI 2 (tiI 3 (fun _ => trivial) (tsI 2 (tiI 4 (fun _ => trivial) (tsI 1 trivial))))))))) ?_
 refine nn ?_
 refine aw_cond (b := (((((decide (g.1 < (1 : Int))) || (decide ((3 : Int) < g.1))) || (decide (g.2.1 < (1 : Int)))) || (decide ((5 : Int) < g.2.1))) || (decide ((10 : Int) < (g.2.2.2.length : Int))))) (by kernel_rfl) (fun hb => ?_) (fun hb => ?_)
 ·have h := h.1 hb
  refine srn 1 ⟨78, [sI 2 (1 : Int)], []⟩ (by kernel_rfl) rfl ?_
  refine aw_ret ?_
  refine thenQ_r ?_
  exact retQ_r (ob := Ts 1 True) _ (by kernel_rfl) (tsI 1 trivial) h
 ·have h := h.2 hb
  refine aw_skip ?_
  refine thenQ_n ?_
  refine aw_seq ?_
  refine srn 4 ⟨78, [sp 1 1, e18_2 g, e18_5 g, sI 34 (0 : Int)], [e18_0 g]⟩ (by kernel_rfl) rfl ?_
  refine withJoin (σ := Unit) (fun s => (⟨78, [sp 1 1], [e18_0 g]⟩ : St)) (fun s => VC18_k1 g K) (fun s h => ?_) (fun rest2 => ?_)
  ·have h : VC18_k1 g K := h
   unfold VC18_k1 at h
   refine thenQ_n ?_
   refine aw_seq ?_
   refine sr ?_
   refine rq 10 (ob := (Ts 4 (Ti 5 ((decide (g.2.2.1 < (0 : Int))) = false → True) (Ts 1 True)))) (st' := (⟨78, [sp 1 1, sB 52 ((decide (g.2.2.1 < (0 : Int))) || (decide (g.2.1 ≤ g.2.2.1)))], [e18_0 g]⟩ : St)) (by kernel_rfl) (tsI 4 (tiI 5 (fun _ => trivial) (tsI 1 trivial))) ?_
   refine nn ?_
   refine aw_cond (b := ((decide (g.2.2.1 < (0 : Int))) || (decide (g.2.1 ≤ g.2.2.1)))) (by kernel_rfl) (fun hb => ?_) (fun hb => ?_)
   ·have h := h.1 hb
    refine srn 1 ⟨78, [sI 2 (2 : Int)], []⟩ (by kernel_rfl) rfl ?_
    refine aw_ret ?_
    refine thenQ_r ?_
    exact retQ_r (ob := Ts 1 True) _ (by kernel_rfl) (tsI 1 trivial) h
   ·have h := h.2 hb
    refine aw_skip ?_
    refine thenQ_n ?_
    refine aw_seq ?_
    refine srn 4 ⟨78, [sp 1 1, e18_1 g, e18_4 g, sI 56 (0 : Int)], [e18_0 g]⟩ (by kernel_rfl) rfl ?_
    refine withJoin (σ := Unit) (fun s => (⟨78, [], []⟩ : St)) (fun s => VC18_k2 K) (fun s h => ?_) (fun rest1 => ?_)
    ·have h : VC18_k2 K := h
     unfold VC18_k2 at h
     refine thenQ_n ?_
     refine srn 1 ⟨78, [sI 2 (0 : Int)], []⟩ (by kernel_rfl) rfl ?_
     refine aw_ret ?_
     exact retQ_r (ob := Ts 1 True) _ (by kernel_rfl) (tsI 1 trivial) h
    ·refine aw_block ?_
     refine aw_loop (σ := Int) (fun s => (⟨78, [sp 1 1, e18_1 g, e18_4 g, sI 56 s], [e18_0 g]⟩ : St)) (fun s X => VC18_l1 g K s X) (s0 := (0 : Int)) (fun v56 X1 h => ?_) h
     have h : VC18_l1 g K v56 X1 := h
     unfold VC18_l1 at h
     refine srn 1 ⟨78, [sp 1 1, e18_1 g, e18_4 g, sI 56 v56, sB 57 (decide (v56 < (g.2.2.2.length : Int)))], [e18_0 g]⟩ (by kernel_rfl) rfl ?_
     refine aw_seq ?_
     refine aw_cond (b := (decide (v56 < (g.2.2.2.length : Int)))) (by kernel_rfl) (fun hb => ?_) (fun hb => ?_)
     ·have h := h.1 hb
      refine aw_skip ?_
      refine thenQ_n ?_
      refine aw_seq ?_
      refine aw_block ?_
      refine sr ?_
      obtain ⟨o1, h⟩ := h
      refine rq 4 (ob := (inIdx v56 g.2.2.2.length ∧ Ts 3 True)) (st' := (⟨78, [sp 1 1, sp 6 6, e18_1 g, e18_4 g, sI 56 v56], [e18_0 g, hB 6 [.pI ((g.2.2.2.getD (v56).toNat ((0 : Int), ([] : LI))).1), .pS ((g.2.2.2.getD (v56).toNat ((0 : Int), ([] : LI))).2)]]⟩ : St)) (by kernel_rfl) (⟨o1, tsI 3 trivial⟩) ?_
      refine nsr ?_
      refine rq 14 (ob := (Ts 4 (Ti 5 ((decide ((g.2.2.2.getD (v56).toNat ((0 : Int), ([] : LI))).1 < (0 : Int))) = false → True) (Ts 2 (Ti 3 (((decide ((g.2.2.2.getD (v56).toNat ((0 : Int), ([] : LI))).1 < (0 : Int))) || (decide (g.2.1 ≤ (g.2.2.2.getD (v56).toNat ((0 : Int), ([] : LI))).1))) = false → True) True))))) (st' := (⟨78, [sp 1 1, e18_1 g, e18_4 g, sI 56 v56, e18_3 g v56, (71, [(70, false)], .v (.agg [.pI g.1, .pI g.2.1, .pI g.2.2.1, .p (.sl tR) g.2.2.2])), (73, [(70, false)], .v (.c (.pS ((g.2.2.2.getD (v56).toNat ((0 : Int), ([] : LI))).2))))], [e18_0 g]⟩ : St)) (by kernel_rfl) (tsI 4 (tiI 5 (fun _ => trivial) (tsI 2 (tiI 3 (fun _ => trivial) trivial)))) ?_
      refine awl_callk (p := [(70, false)]) (l := [toV1 tG g, toV1 (.sl tI) ((g.2.2.2.getD (v56).toNat ((0 : Int), ([] : LI))).2)]) (cl := []) false [.d tG, .d (.sl tI)] [1, 54, 55, 56, 70, 74] [1] (fun (ret74v : Bool) => (((((decide ((g.2.2.2.getD (v56).toNat ((0 : Int), ([] : LI))).1 < (0 : Int))) || (decide (g.2.1 ≤ (g.2.2.2.getD (v56).toNat ((0 : Int), ([] : LI))).1))) || (!ret74v)) = true → K (2 : Int)) ∧ ((((decide ((g.2.2.2.getD (v56).toNat ((0 : Int), ([] : LI))).1 < (0 : Int))) || (decide (g.2.1 ≤ (g.2.2.2.getD (v56).toNat ((0 : Int), ([] : LI))).1))) || (!ret74v)) = false → (InR (v56 + (1 : Int)) ∧ X1 (v56 + (1 : Int)))))) (fun ret74v => [toV1 .bool ret74v]) (fun ret74v => (⟨78, [sp 1 1, e18_1 g, e18_4 g, sI 56 v56, e18_3 g v56, (74, [(70, false)], .v (.c (.pB ret74v)))], [e18_0 g]⟩ : St)) (by kernel_rfl) rfl (by kernel_rfl) rfl (by kernel_rfl) Try.call43 (by kernel_rfl) (fun ret74v => by kernel_rfl) (fun e => by cases e) (fun hg => link43 g ((g.2.2.2.getD (v56).toNat ((0 : Int), ([] : LI))).2) _ (by have := gcall_T h (show (!((decide ((g.2.2.2.getD (v56).toNat ((0 : Int), ([] : LI))).1 < (0 : Int))) || (decide (g.2.1 ≤ (g.2.2.2.getD (v56).toNat ((0 : Int), ([] : LI))).1)))) = true from hg); exact this)) (fun hg => ⟨false, by have := gcall_F h (show (!((decide ((g.2.2.2.getD (v56).toNat ((0 : Int), ([] : LI))).1 < (0 : Int))) || (decide (g.2.1 ≤ (g.2.2.2.getD (v56).toNat ((0 : Int), ([] : LI))).1)))) = false from hg); exact this⟩) (fun ret74v h => ?_)
      refine rq 2 (ob := ((((decide ((g.2.2.2.getD (v56).toNat ((0 : Int), ([] : LI))).1 < (0 : Int))) || (decide (g.2.1 ≤ (g.2.2.2.getD (v56).toNat ((0 : Int), ([] : LI))).1))) = false → True) ∧ Ts 1 True)) (st' := (⟨78, [sp 1 1, e18_1 g, e18_4 g, sI 56 v56, sB 76 (((decide ((g.2.2.2.getD (v56).toNat ((0 : Int), ([] : LI))).1 < (0 : Int))) || (decide (g.2.1 ≤ (g.2.2.2.getD (v56).toNat ((0 : Int), ([] : LI))).1))) || (!ret74v))], [e18_0 g]⟩ : St)) (by kernel_rfl) (⟨(fun _ => trivial), tsI 1 trivial⟩) ?_
      refine nn ?_
      refine aw_cond (b := (((decide ((g.2.2.2.getD (v56).toNat ((0 : Int), ([] : LI))).1 < (0 : Int))) || (decide (g.2.1 ≤ (g.2.2.2.getD (v56).toNat ((0 : Int), ([] : LI))).1))) || (!ret74v))) (by kernel_rfl) (fun hb => ?_) (fun hb => ?_)
      ·have h := h.1 hb
       refine srn 1 ⟨78, [sI 2 (2 : Int)], []⟩ (by kernel_rfl) rfl ?_
       refine aw_ret ?_
       refine blockQ_r ?_
       refine thenQ_r ?_
       refine thenQ_r ?_
       refine blockQ_r ?_
       refine thenQ_r ?_
       exact retQ_r (ob := Ts 1 True) _ (by kernel_rfl) (tsI 1 trivial) h
      ·have h := h.2 hb
       refine aw_skip ?_
       refine blockQ_n ?_
       refine thenQ_n ?_
       refine aw_region ?_
       obtain ⟨o1, h⟩ := h
       refine rq 2 (ob := (InR (v56 + (1 : Int)) ∧ Ts 1 True)) (st' := (⟨78, [sp 1 1, e18_1 g, e18_4 g, sI 56 (v56 + (1 : Int))], [e18_0 g]⟩ : St)) (by kernel_rfl) (⟨o1, tsI 1 trivial⟩) ?_
       refine awl_nil ?_
       exact thenQ_n ⟨(v56 + (1 : Int)), rfl, h⟩
     ·have h := h.2 hb
      refine cpr (st' := (⟨78, [], []⟩ : St)) (by kernel_rfl) ?_
      refine aw_exit ?_
      refine thenQ_x ?_
      refine thenQ_x ?_
      refine blockQ_hit ?_
      exact rest1 () h
  ·refine aw_block ?_
   refine aw_loop (σ := Int) (fun s => (⟨78, [sp 1 1, e18_2 g, e18_5 g, sI 34 s], [e18_0 g]⟩ : St)) (fun s X => VC18_l2 g K s X) (s0 := (0 : Int)) (fun v34 X2 h => ?_) h
   have h : VC18_l2 g K v34 X2 := h
   unfold VC18_l2 at h
   refine srn 1 ⟨78, [sp 1 1, e18_2 g, e18_5 g, sI 34 v34, sB 35 (decide (v34 < (g.2.2.2.length : Int)))], [e18_0 g]⟩ (by kernel_rfl) rfl ?_
   refine aw_seq ?_
   refine aw_cond (b := (decide (v34 < (g.2.2.2.length : Int)))) (by kernel_rfl) (fun hb => ?_) (fun hb => ?_)
   ·have h := h.1 hb
    refine aw_skip ?_
    refine thenQ_n ?_
    refine aw_seq ?_
    refine aw_block ?_
    refine sr ?_
    obtain ⟨o1, h⟩ := h
    refine rq 4 (ob := (inIdx v34 g.2.2.2.length ∧ Ts 3 True)) (st' := (⟨78, [sp 1 1, sp 4 4, e18_2 g, e18_5 g, sI 34 v34], [e18_0 g, hB 4 [.pI ((g.2.2.2.getD (v34).toNat ((0 : Int), ([] : LI))).1), .pS ((g.2.2.2.getD (v34).toNat ((0 : Int), ([] : LI))).2)]]⟩ : St)) (by kernel_rfl) (⟨o1, tsI 3 trivial⟩) ?_
    refine nsr ?_
    refine rqT 4 ⟨78, [sp 1 1, e18_2 g, e18_5 g, sI 34 v34, sB 41 (decide ((4 : Int) < (((g.2.2.2.getD (v34).toNat ((0 : Int), ([] : LI))).2).length : Int)))], [e18_0 g]⟩ (by kernel_rfl) ?_
    refine nn ?_
    refine aw_cond (b := (decide ((4 : Int) < (((g.2.2.2.getD (v34).toNat ((0 : Int), ([] : LI))).2).length : Int)))) (by kernel_rfl) (fun hb => ?_) (fun hb => ?_)
    ·have h := h.1 hb
     refine srn 1 ⟨78, [sI 2 (1 : Int)], []⟩ (by kernel_rfl) rfl ?_
     refine aw_ret ?_
     refine blockQ_r ?_
     refine thenQ_r ?_
     refine thenQ_r ?_
     refine blockQ_r ?_
     refine thenQ_r ?_
     exact retQ_r (ob := Ts 1 True) _ (by kernel_rfl) (tsI 1 trivial) h
    ·have h := h.2 hb
     refine aw_skip ?_
     refine blockQ_n ?_
     refine thenQ_n ?_
     refine aw_region ?_
     obtain ⟨o1, h⟩ := h
     refine rq 2 (ob := (InR (v34 + (1 : Int)) ∧ Ts 1 True)) (st' := (⟨78, [sp 1 1, e18_2 g, e18_5 g, sI 34 (v34 + (1 : Int))], [e18_0 g]⟩ : St)) (by kernel_rfl) (⟨o1, tsI 1 trivial⟩) ?_
     refine awl_nil ?_
     exact thenQ_n ⟨(v34 + (1 : Int)), rfl, h⟩
   ·have h := h.2 hb
    refine cpr (st' := (⟨78, [sp 1 1], [e18_0 g]⟩ : St)) (by kernel_rfl) ?_
    refine aw_exit ?_
    refine thenQ_x ?_
    refine thenQ_x ?_
    refine blockQ_hit ?_
    exact rest2 () h
abbrev e46_0 (w : LI) : Nat × Path × AV := sI 11 (w.length : Int)
-- coppicer/coppicerref.WordCheck
def VC46_k1 (K : Int → Prop) : Prop :=
  K (0 : Int)
def VC46_l1 (k : Int) (w : LI) (K : Int → Prop) (v12 : Int) (X1 : Int → Prop) : Prop :=
  (((decide (v12 < (w.length : Int))) = true → (inIdx v12 w.length ∧ ((((decide ((w.getD (v12).toNat (0 : Int)) < (0 : Int))) || (decide (k ≤ (w.getD (v12).toNat (0 : Int))))) = true → K (2 : Int)) ∧ (((decide ((w.getD (v12).toNat (0 : Int)) < (0 : Int))) || (decide (k ≤ (w.getD (v12).toNat (0 : Int))))) = false → (InR (v12 + (1 : Int)) ∧ X1 (v12 + (1 : Int))))))) ∧ ((decide (v12 < (w.length : Int))) = false → VC46_k1 K))
def VC46 (k : Int) (w : LI) (K : Int → Prop) : Prop :=
  (((decide ((12 : Int) < (w.length : Int))) = true → K (1 : Int)) ∧ ((decide ((12 : Int) < (w.length : Int))) = false → Loop (σ := Int) (fun s X => VC46_l1 k w K s X) (0 : Int)))
set_option maxHeartbeats 4000000 in
theorem link46 (k : Int) (w : LI) (K : Int → Prop) (h : VC46 k w K) : ACalls Try.prog 46 [toV1 tI k, toV1 (.sl tI) w] (fun res => ∃ y, res = (fun y => [toV1 tI y]) y ∧ K y) := by
 refine acalls_of_aw [tI] [.t 4] Try.func46 rfl rfl rfl ?_
 unfold VC46 at h
 refine srn 1 ⟨24, [sI 0 k, s1 1 (.pS w)], []⟩ (by kernel_rfl) rfl ?_
 refine aw_seq ?_
 refine srn 3 ⟨24, [sI 0 k, s1 1 (.pS w), sB 9 (decide ((12 : Int) < (w.length : Int)))], []⟩ (by kernel_rfl) rfl ?_
 refine aw_cond (b := (decide ((12 : Int) < (w.length : Int)))) (by kernel_rfl) (fun hb => ?_) (fun hb => ?_)
 ·have h := h.1 hb
  refine srn 1 ⟨24, [sI 4 (1 : Int)], []⟩ (by kernel_rfl) rfl ?_
  refine aw_ret ?_
  refine thenQ_r ?_
  exact retQ_r (ob := Ts 1 True) _ (by kernel_rfl) (tsI 1 trivial) h
 ·have h := h.2 hb
  refine aw_skip ?_
  refine thenQ_n ?_
  refine aw_seq ?_
  refine srn 3 ⟨24, [sI 0 k, s1 10 (.pS w), e46_0 w, sI 12 (0 : Int)], []⟩ (by kernel_rfl) rfl ?_
  refine withJoin (σ := Unit) (fun s => (⟨24, [], []⟩ : St)) (fun s => VC46_k1 K) (fun s h => ?_) (fun rest1 => ?_)
  ·have h : VC46_k1 K := h
   unfold VC46_k1 at h
   refine thenQ_n ?_
   refine srn 1 ⟨24, [sI 4 (0 : Int)], []⟩ (by kernel_rfl) rfl ?_
   refine aw_ret ?_
   exact retQ_r (ob := Ts 1 True) _ (by kernel_rfl) (tsI 1 trivial) h
  ·refine aw_block ?_
   refine aw_loop (σ := Int) (fun s => (⟨24, [sI 0 k, s1 10 (.pS w), e46_0 w, sI 12 s], []⟩ : St)) (fun s X => VC46_l1 k w K s X) (s0 := (0 : Int)) (fun v12 X1 h => ?_) h
   have h : VC46_l1 k w K v12 X1 := h
   unfold VC46_l1 at h
   refine srn 1 ⟨24, [sI 0 k, s1 10 (.pS w), e46_0 w, sI 12 v12, sB 13 (decide (v12 < (w.length : Int)))], []⟩ (by kernel_rfl) rfl ?_
   refine aw_seq ?_
   refine aw_cond (b := (decide (v12 < (w.length : Int)))) (by kernel_rfl) (fun hb => ?_) (fun hb => ?_)
   ·have h := h.1 hb
    refine aw_skip ?_
    refine thenQ_n ?_
    refine aw_seq ?_
    refine aw_block ?_
    refine sr ?_
    obtain ⟨o1, h⟩ := h
    refine rq 3 (ob := (inIdx v12 w.length ∧ Ts 2 True)) (st' := (⟨24, [sI 0 k, sI 6 (w.getD (v12).toNat (0 : Int)), s1 10 (.pS w), e46_0 w, sI 12 v12], []⟩ : St)) (by kernel_rfl) (⟨o1, tsI 2 trivial⟩) ?_
    refine nsr ?_
    refine rq 7 (ob := (Ts 3 (Ti 3 ((decide ((w.getD (v12).toNat (0 : Int)) < (0 : Int))) = false → True) (Ts 1 True)))) (st' := (⟨24, [sI 0 k, s1 10 (.pS w), e46_0 w, sI 12 v12, sB 22 ((decide ((w.getD (v12).toNat (0 : Int)) < (0 : Int))) || (decide (k ≤ (w.getD (v12).toNat (0 : Int)))))], []⟩ : St)) (by kernel_rfl) (tsI 3 (tiI 3 (fun _ => trivial) (tsI 1 trivial))) ?_
    refine nn ?_
    refine aw_cond (b := ((decide ((w.getD (v12).toNat (0 : Int)) < (0 : Int))) || (decide (k ≤ (w.getD (v12).toNat (0 : Int)))))) (by kernel_rfl) (fun hb => ?_) (fun hb => ?_)
    ·have h := h.1 hb
     refine srn 1 ⟨24, [sI 4 (2 : Int)], []⟩ (by kernel_rfl) rfl ?_
     refine aw_ret ?_
     refine blockQ_r ?_
     refine thenQ_r ?_
     refine thenQ_r ?_
     refine blockQ_r ?_
     refine thenQ_r ?_
     exact retQ_r (ob := Ts 1 True) _ (by kernel_rfl) (tsI 1 trivial) h
    ·have h := h.2 hb
     refine aw_skip ?_
     refine blockQ_n ?_
     refine thenQ_n ?_
     refine aw_region ?_
     obtain ⟨o1, h⟩ := h
     refine rq 2 (ob := (InR (v12 + (1 : Int)) ∧ Ts 1 True)) (st' := (⟨24, [sI 0 k, s1 10 (.pS w), e46_0 w, sI 12 (v12 + (1 : Int))], []⟩ : St)) (by kernel_rfl) (⟨o1, tsI 1 trivial⟩) ?_
     refine awl_nil ?_
     exact thenQ_n ⟨(v12 + (1 : Int)), rfl, h⟩
   ·have h := h.2 hb
    refine cpr (st' := (⟨24, [], []⟩ : St)) (by kernel_rfl) ?_
    refine aw_exit ?_
    refine thenQ_x ?_
    refine thenQ_x ?_
    refine blockQ_hit ?_
    exact rest1 () h
abbrev e21_0 (g : TG) : Nat × Path × Con := hB 2 [.pI g.1, .pI g.2.1, .pI g.2.2.1, .p (.sl tR) g.2.2.2]
-- coppicer/coppicerkeep.grown
def VC21 (g : TG) (w : LI) (K : Bool → Prop) : Prop :=
  VC18 g (fun (ret6v : Int) => gcall (α := Int) (decide (ret6v = (0 : Int))) (VC46 g.1 w) (0 : Int) (fun (ret12v : Int) => K ((decide (ret6v = (0 : Int))) && (decide (ret12v = (0 : Int))))))
set_option maxHeartbeats 4000000 in
theorem link21 (g : TG) (w : LI) (K : Bool → Prop) (h : VC21 g w K) : ACalls Try.prog 21 [toV1 tG g, toV1 (.sl tI) w] (fun res => ∃ y, res = (fun y => [toV1 .bool y]) y ∧ K y) := by
 refine acalls_of_aw [.bool] [.t 4] Try.func21 rfl rfl rfl ?_
 unfold VC21 at h
 refine sr ?_
 refine rqT 2 ⟨15, [s1 1 (.pS w), sp 2 2], [e21_0 g]⟩ (by kernel_rfl) ?_
 refine nsr ?_
 refine rqT 1 ⟨15, [s1 1 (.pS w), sp 2 2, sA 5 [.pI g.1, .pI g.2.1, .pI g.2.2.1, .p (.sl tR) g.2.2.2]], [e21_0 g]⟩ (by kernel_rfl) ?_
 refine lcq (d := 6) [.d tG] (fun ret6v => (⟨15, [s1 1 (.pS w), sp 2 2, sI 6 ret6v], [e21_0 g]⟩ : St)) (by kernel_rfl) Try.call18 (fun _ => by kernel_rfl) (link18 g _ h) (fun ret6v h => ?_)
 refine rq 5 (ob := (Ts 2 (Ti 3 ((decide (ret6v = (0 : Int))) = true → True) True))) (st' := (⟨15, [sB 8 (decide (ret6v = (0 : Int))), (10, [(8, true)], .v (.c (.pI g.1))), (11, [(8, true)], .v (.c (.pS w)))], []⟩ : St)) (by kernel_rfl) (tsI 2 (tiI 3 (fun _ => trivial) trivial)) ?_
 refine awl_callk (p := [(8, true)]) (l := [toV1 tI g.1, toV1 (.sl tI) w]) (cl := []) false [.d tI, .d (.sl tI)] [8, 12] [] (fun (ret12v : Int) => K ((decide (ret6v = (0 : Int))) && (decide (ret12v = (0 : Int))))) (fun ret12v => [toV1 tI ret12v]) (fun ret12v => (⟨15, [sB 8 (decide (ret6v = (0 : Int))), (12, [(8, true)], .v (.c (.pI ret12v)))], []⟩ : St)) (by kernel_rfl) rfl (by kernel_rfl) rfl (by kernel_rfl) Try.call46 (by kernel_rfl) (fun ret12v => by kernel_rfl) (fun e => by cases e) (fun hg => link46 g.1 w _ (by have := gcall_T h (show (decide (ret6v = (0 : Int))) = true from hg); exact this)) (fun hg => ⟨(0 : Int), by have := gcall_F h (show (decide (ret6v = (0 : Int))) = false from hg); exact this⟩) (fun ret12v h => ?_)
 refine rq 3 (ob := (((decide (ret6v = (0 : Int))) = true → True) ∧ Ts 2 True)) (st' := (⟨15, [sB 4 ((decide (ret6v = (0 : Int))) && (decide (ret12v = (0 : Int))))], []⟩ : St)) (by kernel_rfl) (⟨(fun _ => trivial), tsI 2 trivial⟩) ?_
 refine nn ?_
 refine aw_ret ?_
 exact retQ_r (ob := Ts 1 True) _ (by kernel_rfl) (tsI 1 trivial) h
abbrev e28_0 (g : TG) : Nat × Path × Con := hB 1 [.pI g.1, .pI g.2.1, .pI g.2.2.1, .p (.sl tR) g.2.2.2]
abbrev e28_1 (g : TG) : Nat × Path × AV := s1 6 (.p (.sl tR) g.2.2.2)
abbrev e28_2 (g : TG) : Nat × Path × AV := sI 7 (g.2.2.2.length : Int)
-- coppicer/coppicerref.Proper
def VC28_k1 (K : Bool → Prop) : Prop :=
  K true
def VC28_l1 (g : TG) (K : Bool → Prop) (v8 : Int) (X1 : Int → Prop) : Prop :=
  (((decide (v8 < (g.2.2.2.length : Int))) = true → (inIdx v8 g.2.2.2.length ∧ (((decide ((((g.2.2.2.getD (v8).toNat ((0 : Int), ([] : LI))).2).length : Int) = (0 : Int))) = false → ((decide ((((g.2.2.2.getD (v8).toNat ((0 : Int), ([] : LI))).2).length : Int) = (1 : Int))) = true → inIdx (0 : Int) ((g.2.2.2.getD (v8).toNat ((0 : Int), ([] : LI))).2).length)) ∧ ((((decide ((((g.2.2.2.getD (v8).toNat ((0 : Int), ([] : LI))).2).length : Int) = (0 : Int))) || ((decide ((((g.2.2.2.getD (v8).toNat ((0 : Int), ([] : LI))).2).length : Int) = (1 : Int))) && (decide (g.1 ≤ (((g.2.2.2.getD (v8).toNat ((0 : Int), ([] : LI))).2).getD ((0 : Int)).toNat (0 : Int)))))) = true → K false) ∧ (((decide ((((g.2.2.2.getD (v8).toNat ((0 : Int), ([] : LI))).2).length : Int) = (0 : Int))) || ((decide ((((g.2.2.2.getD (v8).toNat ((0 : Int), ([] : LI))).2).length : Int) = (1 : Int))) && (decide (g.1 ≤ (((g.2.2.2.getD (v8).toNat ((0 : Int), ([] : LI))).2).getD ((0 : Int)).toNat (0 : Int)))))) = false → (InR (v8 + (1 : Int)) ∧ X1 (v8 + (1 : Int)))))))) ∧ ((decide (v8 < (g.2.2.2.length : Int))) = false → VC28_k1 K))
def VC28 (g : TG) (K : Bool → Prop) : Prop :=
  Loop (σ := Int) (fun s X => VC28_l1 g K s X) (0 : Int)
set_option maxHeartbeats 4000000 in
theorem link28 (g : TG) (K : Bool → Prop) (h : VC28 g K) : ACalls Try.prog 28 [toV1 tG g] (fun res => ∃ y, res = (fun y => [toV1 .bool y]) y ∧ K y) := by
 refine acalls_of_aw [.bool] [.t 2] Try.func28 rfl rfl rfl ?_
 unfold VC28 at h
 refine srn 2 ⟨32, [sp 1 1], [e28_0 g]⟩ (by kernel_rfl) rfl ?_
 refine aw_seq ?_
 refine srn 4 ⟨32, [sp 1 1, e28_1 g, e28_2 g, sI 8 (0 : Int)], [e28_0 g]⟩ (by kernel_rfl) rfl ?_
 refine withJoin (σ := Unit) (fun s => (⟨32, [], []⟩ : St)) (fun s => VC28_k1 K) (fun s h => ?_) (fun rest1 => ?_)
 ·have h : VC28_k1 K := h
  unfold VC28_k1 at h
  refine thenQ_n ?_
  refine srn 1 ⟨32, [sB 2 true], []⟩ (by kernel_rfl) rfl ?_
  refine aw_ret ?_
  exact retQ_r (ob := Ts 1 True) _ (by kernel_rfl) (tsI 1 trivial) h
 ·refine aw_block ?_
  refine aw_loop (σ := Int) (fun s => (⟨32, [sp 1 1, e28_1 g, e28_2 g, sI 8 s], [e28_0 g]⟩ : St)) (fun s X => VC28_l1 g K s X) (s0 := (0 : Int)) (fun v8 X1 h => ?_) h
  have h : VC28_l1 g K v8 X1 := h
  unfold VC28_l1 at h
  refine srn 1 ⟨32, [sp 1 1, e28_1 g, e28_2 g, sI 8 v8, sB 9 (decide (v8 < (g.2.2.2.length : Int)))], [e28_0 g]⟩ (by kernel_rfl) rfl ?_
  refine aw_seq ?_
  refine aw_cond (b := (decide (v8 < (g.2.2.2.length : Int)))) (by kernel_rfl) (fun hb => ?_) (fun hb => ?_)
  ·have h := h.1 hb
   refine aw_skip ?_
   refine thenQ_n ?_
   refine aw_seq ?_
   refine aw_block ?_
   refine sr ?_
   obtain ⟨o1, h⟩ := h
   refine rq 4 (ob := (inIdx v8 g.2.2.2.length ∧ Ts 3 True)) (st' := (⟨32, [sp 1 1, sp 4 4, e28_1 g, e28_2 g, sI 8 v8], [e28_0 g, hB 4 [.pI ((g.2.2.2.getD (v8).toNat ((0 : Int), ([] : LI))).1), .pS ((g.2.2.2.getD (v8).toNat ((0 : Int), ([] : LI))).2)]]⟩ : St)) (by kernel_rfl) (⟨o1, tsI 3 trivial⟩) ?_
   refine nn ?_
   refine aw_seq ?_
   refine awd_begin [] (by kernel_rfl) ?_
   obtain ⟨o1, h⟩ := h
   refine drq (by kernel_rfl) [0, 1, 2, 3, 4, 5, 6, 7, 8, 9, 10, 11, 12, 13, 14, 15, 16, 17, 18] (ob := (Ts 5 (Ti 5 ((decide ((((g.2.2.2.getD (v8).toNat ((0 : Int), ([] : LI))).2).length : Int) = (0 : Int))) = false → True) (((decide ((((g.2.2.2.getD (v8).toNat ((0 : Int), ([] : LI))).2).length : Int) = (0 : Int))) = false → ((decide ((((g.2.2.2.getD (v8).toNat ((0 : Int), ([] : LI))).2).length : Int) = (1 : Int))) = true → True)) ∧ ((decide ((((g.2.2.2.getD (v8).toNat ((0 : Int), ([] : LI))).2).length : Int) = (0 : Int))) = false → ((decide ((((g.2.2.2.getD (v8).toNat ((0 : Int), ([] : LI))).2).length : Int) = (1 : Int))) = true → True)) ∧ ((decide ((((g.2.2.2.getD (v8).toNat ((0 : Int), ([] : LI))).2).length : Int) = (0 : Int))) = false → ((decide ((((g.2.2.2.getD (v8).toNat ((0 : Int), ([] : LI))).2).length : Int) = (1 : Int))) = true → inIdx (0 : Int) ((g.2.2.2.getD (v8).toNat ((0 : Int), ([] : LI))).2).length)) ∧ ((decide ((((g.2.2.2.getD (v8).toNat ((0 : Int), ([] : LI))).2).length : Int) = (0 : Int))) = false → ((decide ((((g.2.2.2.getD (v8).toNat ((0 : Int), ([] : LI))).2).length : Int) = (1 : Int))) = true → True)) ∧ ((decide ((((g.2.2.2.getD (v8).toNat ((0 : Int), ([] : LI))).2).length : Int) = (0 : Int))) = false → ((decide ((((g.2.2.2.getD (v8).toNat ((0 : Int), ([] : LI))).2).length : Int) = (1 : Int))) = true → True)) ∧ ((decide ((((g.2.2.2.getD (v8).toNat ((0 : Int), ([] : LI))).2).length : Int) = (0 : Int))) = false → ((decide ((((g.2.2.2.getD (v8).toNat ((0 : Int), ([] : LI))).2).length : Int) = (1 : Int))) = true → True)) ∧ ((decide ((((g.2.2.2.getD (v8).toNat ((0 : Int), ([] : LI))).2).length : Int) = (0 : Int))) = false → ((decide ((((g.2.2.2.getD (v8).toNat ((0 : Int), ([] : LI))).2).length : Int) = (1 : Int))) = true → True)) ∧ ((decide ((((g.2.2.2.getD (v8).toNat ((0 : Int), ([] : LI))).2).length : Int) = (0 : Int))) = false → True) ∧ Ts 1 True)))) (done' := [18, 17, 16, 15, 14, 13, 12, 11, 10, 9, 8, 7, 6, 5, 4, 3, 2, 1, 0]) (st' := (⟨32, [sp 1 1, e28_1 g, e28_2 g, sI 8 v8, sB 30 ((decide ((((g.2.2.2.getD (v8).toNat ((0 : Int), ([] : LI))).2).length : Int) = (0 : Int))) || ((decide ((((g.2.2.2.getD (v8).toNat ((0 : Int), ([] : LI))).2).length : Int) = (1 : Int))) && (decide (g.1 ≤ (((g.2.2.2.getD (v8).toNat ((0 : Int), ([] : LI))).2).getD ((0 : Int)).toNat (0 : Int))))))], [e28_0 g]⟩ : St)) (by kernel_rfl) (tsI 5 (tiI 5 (fun _ => trivial) (tiI 2 (fun _ _ => trivial) (⟨o1, tiI 4 (fun _ _ => trivial) ⟨(fun _ => trivial), tsI 1 trivial⟩⟩)))) ?_
   refine awd_done (by kernel_rfl) ?_
   refine thenQ_n ?_
   refine aw_cond (b := ((decide ((((g.2.2.2.getD (v8).toNat ((0 : Int), ([] : LI))).2).length : Int) = (0 : Int))) || ((decide ((((g.2.2.2.getD (v8).toNat ((0 : Int), ([] : LI))).2).length : Int) = (1 : Int))) && (decide (g.1 ≤ (((g.2.2.2.getD (v8).toNat ((0 : Int), ([] : LI))).2).getD ((0 : Int)).toNat (0 : Int))))))) (by kernel_rfl) (fun hb => ?_) (fun hb => ?_)
   ·have h := h.1 hb
    refine srn 1 ⟨32, [sB 2 false], []⟩ (by kernel_rfl) rfl ?_
    refine aw_ret ?_
    refine blockQ_r ?_
    refine thenQ_r ?_
    refine thenQ_r ?_
    refine blockQ_r ?_
    refine thenQ_r ?_
    exact retQ_r (ob := Ts 1 True) _ (by kernel_rfl) (tsI 1 trivial) h
   ·have h := h.2 hb
    refine aw_skip ?_
    refine blockQ_n ?_
    refine thenQ_n ?_
    refine aw_region ?_
    obtain ⟨o1, h⟩ := h
    refine rq 2 (ob := (InR (v8 + (1 : Int)) ∧ Ts 1 True)) (st' := (⟨32, [sp 1 1, e28_1 g, e28_2 g, sI 8 (v8 + (1 : Int))], [e28_0 g]⟩ : St)) (by kernel_rfl) (⟨o1, tsI 1 trivial⟩) ?_
    refine awl_nil ?_
    exact thenQ_n ⟨(v8 + (1 : Int)), rfl, h⟩
  ·have h := h.2 hb
   refine cpr (st' := (⟨32, [], []⟩ : St)) (by kernel_rfl) ?_
   refine aw_exit ?_
   refine thenQ_x ?_
   refine thenQ_x ?_
   refine blockQ_hit ?_
   exact rest1 () h
-- coppicer/coppicerref.capped
def VC125 (a : Int) (b : Int) (K : Int → Prop) : Prop :=
  ((((decide (a = (0 : Int))) || (decide (b = (0 : Int)))) = true → K (0 : Int)) ∧ (((decide (a = (0 : Int))) || (decide (b = (0 : Int)))) = false → ((0 ≤ (1099511627777 : Int) ∧ 0 < b) ∧ (((decide (((1099511627777 : Int) / b) < a)) = true → K (1099511627777 : Int)) ∧ ((decide (((1099511627777 : Int) / b) < a)) = false → (InR (a * b) ∧ K (a * b)))))))
set_option maxHeartbeats 4000000 in
theorem link125 (a : Int) (b : Int) (K : Int → Prop) (h : VC125 a b K) : ACalls Try.prog 125 [toV1 tI a, toV1 tI b] (fun res => ∃ y, res = (fun y => [toV1 tI y]) y ∧ K y) := by
 refine acalls_of_aw [tI] [.t 4] Try.func125 rfl rfl rfl ?_
 unfold VC125 at h
 refine srn 1 ⟨18, [sI 0 a, sI 1 b], []⟩ (by kernel_rfl) rfl ?_
 refine aw_seq ?_
 refine sr ?_
 refine rq 6 (ob := (Ts 3 (Ti 2 ((decide (a = (0 : Int))) = false → True) (Ts 1 True)))) (st' := (⟨18, [sI 0 a, sI 1 b, sB 10 ((decide (a = (0 : Int))) || (decide (b = (0 : Int))))], []⟩ : St)) (by kernel_rfl) (tsI 3 (tiI 2 (fun _ => trivial) (tsI 1 trivial))) ?_
 refine nn ?_
 refine aw_cond (b := ((decide (a = (0 : Int))) || (decide (b = (0 : Int))))) (by kernel_rfl) (fun hb => ?_) (fun hb => ?_)
 ·have h := h.1 hb
  refine srn 1 ⟨18, [sI 4 (0 : Int)], []⟩ (by kernel_rfl) rfl ?_
  refine aw_ret ?_
  refine thenQ_r ?_
  exact retQ_r (ob := Ts 1 True) _ (by kernel_rfl) (tsI 1 trivial) h
 ·have h := h.2 hb
  refine aw_skip ?_
  refine thenQ_n ?_
  refine aw_seq ?_
  refine sr ?_
  obtain ⟨o1, h⟩ := h
  refine rq 4 (ob := (Ts 2 ((0 ≤ (1099511627777 : Int) ∧ 0 < b) ∧ Ts 1 True))) (st' := (⟨18, [sI 0 a, sI 1 b, sB 14 (decide (((1099511627777 : Int) / b) < a))], []⟩ : St)) (by kernel_rfl) (tsI 2 ⟨o1, tsI 1 trivial⟩) ?_
  refine nn ?_
  refine aw_cond (b := (decide (((1099511627777 : Int) / b) < a))) (by kernel_rfl) (fun hb => ?_) (fun hb => ?_)
  ·have h := h.1 hb
   refine srn 1 ⟨18, [sI 4 (1099511627777 : Int)], []⟩ (by kernel_rfl) rfl ?_
   refine aw_ret ?_
   refine thenQ_r ?_
   exact retQ_r (ob := Ts 1 True) _ (by kernel_rfl) (tsI 1 trivial) h
  ·have h := h.2 hb
   refine aw_skip ?_
   refine thenQ_n ?_
   refine sr ?_
   obtain ⟨o1, h⟩ := h
   refine rq 4 (ob := (Ts 2 (InR (a * b) ∧ Ts 1 True))) (st' := (⟨18, [sI 4 (a * b)], []⟩ : St)) (by kernel_rfl) (tsI 2 ⟨o1, tsI 1 trivial⟩) ?_
   refine nn ?_
   refine aw_ret ?_
   exact retQ_r (ob := Ts 1 True) _ (by kernel_rfl) (tsI 1 trivial) h
abbrev e34_0 (c0 : Int) (c1 : Int) (c2 : Int) (c3 : LR) (c4 : LI) : Nat × Path × Con := hB 70200 [.pI c0, .pI c1, .pI c2, .p (.sl tR) c3, .pS c4, .own 70201]
abbrev e34_1 (b : LI) : Nat × Path × AV := sI 1 (b.getD ((0 : Int)).toNat (0 : Int))
abbrev e34_2 (c5 : (List (LI × Int))) : Nat × Path × Con := (70201, [], .dict (.ar 2 tI) tI c5)
abbrev e34_3 (c3 : LR) : Nat × Path × AV := s1 56 (.p (.sl tR) c3)
abbrev e34_4 (l702012 : (List (LI × Int))) : Nat × Path × Con := (70201, [], .dict (.ar 2 tI) tI l702012)
abbrev e34_5 (ret46v : Int × (List (LI × Int))) : Nat × Path × Con := (70201, [], .dict (.ar 2 tI) tI ret46v.2)
abbrev e34_6 (l70201 : (List (LI × Int))) : Nat × Path × Con := (70201, [], .dict (.ar 2 tI) tI l70201)
abbrev e34_7 : Nat × Path × AV := sp 156 70200
abbrev e34_8 : Nat × Path × AV := sp 0 70200
abbrev e34_9 (c3 : LR) : Nat × Path × AV := sI 57 (c3.length : Int)
abbrev e34_10 (ret78v : Int × (List (LI × Int))) : Nat × Path × Con := (70201, [], .dict (.ar 2 tI) tI ret78v.2)
abbrev e34_11 (c3 : LR) (v58 : Int) : Nat × Path × Con := hB 12 [.pI ((c3.getD (v58).toNat ((0 : Int), ([] : LI))).1), .pS ((c3.getD (v58).toNat ((0 : Int), ([] : LI))).2)]
abbrev e34_12 (b : LI) : Nat × Path × AV := s1 94 (.pS b)
abbrev e34_13 : Nat × Path × AV := sp 63 70200
abbrev e34_14 : Nat × Path × AV := sp 93 70200
abbrev e34_15 (b : LI) : Nat × Path × AV := s1 1 (.pS b)
abbrev e34_16 (c5 : (List (LI × Int))) (b : LI) (signs : Int) (i : Int) : Nat × Path × AV := sI 9 ((mget c5 [(b.getD ((0 : Int)).toNat (0 : Int)), signs, i]).getD (0 : Int))
abbrev e34_17 (c3 : LR) (v58 : Int) : Nat × Path × AV := s1 75 (.pS ((c3.getD (v58).toNat ((0 : Int), ([] : LI))).2))
-- (*coppicer/coppicerref.Bush).Row
def VCc99_k1 (K : Int × (List (LI × Int)) → Prop) (v8 : Int) (l70201 : (List (LI × Int))) : Prop :=
  K (v8, l70201)
def VCc99_k3 (b : LI) (signs : Int) (i : Int) (K : Int × (List (LI × Int)) → Prop) (l70201 : (List (LI × Int))) (n2 : Int) : Prop :=
  VCc99_k1 K n2 (mset l70201 [(b.getD ((0 : Int)).toNat (0 : Int)), signs, i] n2)
def VCc99_k2 (b : LI) (signs : Int) (i : Int) (K : Int × (List (LI × Int)) → Prop) (n : Int) (l70201 : (List (LI × Int))) : Prop :=
  (((decide ((1099511627776 : Int) < n)) = true → VCc99_k3 b signs i K l70201 (1099511627777 : Int)) ∧ ((decide ((1099511627776 : Int) < n)) = false → VCc99_k3 b signs i K l70201 n))
def VCc99_k4 (v58 : Int) (X1 : Int × Int × (List (LI × Int)) → Prop) (n2 : Int) (l702012 : (List (LI × Int))) : Prop :=
  (InR (v58 + (1 : Int)) ∧ X1 (n2, (v58 + (1 : Int)), l702012))
def VCc99_l1 (c0 : Int) (c3 : LR) (R : LI → Int → Int → (List (LI × Int)) → (Int × (List (LI × Int)) → Prop) → Prop) (b : LI) (signs : Int) (i : Int) (K : Int × (List (LI × Int)) → Prop) (n : Int) (v58 : Int) (l70201 : (List (LI × Int))) (X1 : Int × Int × (List (LI × Int)) → Prop) : Prop :=
  (((decide (v58 < (c3.length : Int))) = true → (inIdx v58 c3.length ∧ (InR ((b.getD ((0 : Int)).toNat (0 : Int)) - c0) ∧ (((decide ((c3.getD (v58).toNat ((0 : Int), ([] : LI))).1 = ((b.getD ((0 : Int)).toNat (0 : Int)) - c0))) = true → R ((c3.getD (v58).toNat ((0 : Int), ([] : LI))).2) signs i l70201 (fun (ret78v : Int × (List (LI × Int))) => (InR (n + ret78v.1) ∧ VCc99_k4 v58 X1 (n + ret78v.1) ret78v.2))) ∧ ((decide ((c3.getD (v58).toNat ((0 : Int), ([] : LI))).1 = ((b.getD ((0 : Int)).toNat (0 : Int)) - c0))) = false → VCc99_k4 v58 X1 n l70201))))) ∧ ((decide (v58 < (c3.length : Int))) = false → VCc99_k2 b signs i K n l70201))
def VCc99_k5 (K : Int × (List (LI × Int)) → Prop) (sumv : Int) (l70201 : (List (LI × Int))) : Prop :=
  K (sumv, l70201)
def VCc99_k7 (m : Int) (X2 : Int × Int × (List (LI × Int)) → Prop) (l702012 : (List (LI × Int))) (sumv3 : Int) : Prop :=
  (InR (m + (1 : Int)) ∧ X2 (sumv3, (m + (1 : Int)), l702012))
def VCc99_k6 (m : Int) (X2 : Int × Int × (List (LI × Int)) → Prop) (sumv2 : Int) (l702012 : (List (LI × Int))) : Prop :=
  (((decide ((1099511627776 : Int) < sumv2)) = true → VCc99_k7 m X2 l702012 (1099511627777 : Int)) ∧ ((decide ((1099511627776 : Int) < sumv2)) = false → VCc99_k7 m X2 l702012 sumv2))
def VCc99_k8 (sumv : Int) (m : Int) (X2 : Int × Int × (List (LI × Int)) → Prop) (ret46v : Int × (List (LI × Int))) (v8 : Int) (l702012 : (List (LI × Int))) : Prop :=
  VC125 v8 ret46v.1 (fun (ret58v : Int) => (InR (sumv + ret58v) ∧ VCc99_k6 m X2 (sumv + ret58v) l702012))
def VCc99_k10 (b : LI) (signs : Int) (sumv : Int) (m : Int) (X2 : Int × Int × (List (LI × Int)) → Prop) (ret46v : Int × (List (LI × Int))) (l702012 : (List (LI × Int))) (n2 : Int) : Prop :=
  VCc99_k8 sumv m X2 ret46v n2 (mset l702012 [(b.getD ((0 : Int)).toNat (0 : Int)), signs, m] n2)
def VCc99_k9 (b : LI) (signs : Int) (sumv : Int) (m : Int) (X2 : Int × Int × (List (LI × Int)) → Prop) (ret46v : Int × (List (LI × Int))) (n : Int) (l702012 : (List (LI × Int))) : Prop :=
  (((decide ((1099511627776 : Int) < n)) = true → VCc99_k10 b signs sumv m X2 ret46v l702012 (1099511627777 : Int)) ∧ ((decide ((1099511627776 : Int) < n)) = false → VCc99_k10 b signs sumv m X2 ret46v l702012 n))
def VCc99_k11 (v58 : Int) (X3 : Int × Int × (List (LI × Int)) → Prop) (n2 : Int) (l702013 : (List (LI × Int))) : Prop :=
  (InR (v58 + (1 : Int)) ∧ X3 (n2, (v58 + (1 : Int)), l702013))
def VCc99_l3 (c0 : Int) (c3 : LR) (R : LI → Int → Int → (List (LI × Int)) → (Int × (List (LI × Int)) → Prop) → Prop) (b : LI) (signs : Int) (sumv : Int) (m : Int) (X2 : Int × Int × (List (LI × Int)) → Prop) (ret46v : Int × (List (LI × Int))) (n : Int) (v58 : Int) (l702012 : (List (LI × Int))) (X3 : Int × Int × (List (LI × Int)) → Prop) : Prop :=
  (((decide (v58 < (c3.length : Int))) = true → (inIdx v58 c3.length ∧ (InR ((b.getD ((0 : Int)).toNat (0 : Int)) - c0) ∧ (((decide ((c3.getD (v58).toNat ((0 : Int), ([] : LI))).1 = ((b.getD ((0 : Int)).toNat (0 : Int)) - c0))) = true → R ((c3.getD (v58).toNat ((0 : Int), ([] : LI))).2) signs m l702012 (fun (ret78v : Int × (List (LI × Int))) => (InR (n + ret78v.1) ∧ VCc99_k11 v58 X3 (n + ret78v.1) ret78v.2))) ∧ ((decide ((c3.getD (v58).toNat ((0 : Int), ([] : LI))).1 = ((b.getD ((0 : Int)).toNat (0 : Int)) - c0))) = false → VCc99_k11 v58 X3 n l702012))))) ∧ ((decide (v58 < (c3.length : Int))) = false → VCc99_k9 b signs sumv m X2 ret46v n l702012))
def VCc99_l2 (c0 : Int) (c3 : LR) (c4 : LI) (R : LI → Int → Int → (List (LI × Int)) → (Int × (List (LI × Int)) → Prop) → Prop) (b : LI) (signs : Int) (i : Int) (K : Int × (List (LI × Int)) → Prop) (sumv : Int) (m : Int) (l70201 : (List (LI × Int))) (X2 : Int × Int × (List (LI × Int)) → Prop) : Prop :=
  (((decide (m < i)) = true → ((0 ≤ (1 : Int) ∧ (1 : Int) ≤ (b.length : Int)) ∧ R (b.drop ((1 : Int)).toNat) m i l70201 (fun (ret46v : Int × (List (LI × Int))) => (((decide ((0 : Int) < ret46v.1)) = true → (inIdx (0 : Int) b.length ∧ (((decide ((b.getD ((0 : Int)).toNat (0 : Int)) < c0)) = true → (InR (signs + (1 : Int)) ∧ ((decide (m = (signs + (1 : Int)))) = true → inIdx signs c4.length) ∧ ((((decide (m = (signs + (1 : Int)))) && (decide ((c4.getD (signs).toNat (0 : Int)) = (b.getD ((0 : Int)).toNat (0 : Int))))) = true → VCc99_k8 sumv m X2 ret46v (1 : Int) ret46v.2) ∧ (((decide (m = (signs + (1 : Int)))) && (decide ((c4.getD (signs).toNat (0 : Int)) = (b.getD ((0 : Int)).toNat (0 : Int))))) = false → VCc99_k8 sumv m X2 ret46v (0 : Int) ret46v.2)))) ∧ ((decide ((b.getD ((0 : Int)).toNat (0 : Int)) < c0)) = false → (((decide (signs = m)) = true → VCc99_k8 sumv m X2 ret46v (0 : Int) ret46v.2) ∧ ((decide (signs = m)) = false → (((mget ret46v.2 [(b.getD ((0 : Int)).toNat (0 : Int)), signs, m]).isSome = true → VCc99_k8 sumv m X2 ret46v ((mget ret46v.2 [(b.getD ((0 : Int)).toNat (0 : Int)), signs, m]).getD (0 : Int)) ret46v.2) ∧ ((mget ret46v.2 [(b.getD ((0 : Int)).toNat (0 : Int)), signs, m]).isSome = false → Loop (σ := Int × Int × (List (LI × Int))) (fun s X => VCc99_l3 c0 c3 R b signs sumv m X2 ret46v s.1 s.2.1 s.2.2 X) (((mget ret46v.2 [(b.getD ((0 : Int)).toNat (0 : Int)), signs, m]).getD (0 : Int)), (0 : Int), ret46v.2))))))))) ∧ ((decide ((0 : Int) < ret46v.1)) = false → VCc99_k6 m X2 sumv ret46v.2))))) ∧ ((decide (m < i)) = false → VCc99_k5 K sumv l70201))
def VCc99 (c0 : Int) (c1 : Int) (c2 : Int) (c3 : LR) (c4 : LI) (R : LI → Int → Int → (List (LI × Int)) → (Int × (List (LI × Int)) → Prop) → Prop) (b : LI) (signs : Int) (i : Int) (c5 : (List (LI × Int))) (K : Int × (List (LI × Int)) → Prop) : Prop :=
  (InR (i - signs) ∧ (((decide ((i - signs) < (b.length : Int))) = true → K ((0 : Int), c5)) ∧ ((decide ((i - signs) < (b.length : Int))) = false → (((decide ((b.length : Int) = (0 : Int))) = true → (((decide (signs = i)) = true → K ((1 : Int), c5)) ∧ ((decide (signs = i)) = false → K ((0 : Int), c5)))) ∧ ((decide ((b.length : Int) = (0 : Int))) = false → (((decide ((b.length : Int) = (1 : Int))) = true → (inIdx (0 : Int) b.length ∧ (((decide ((b.getD ((0 : Int)).toNat (0 : Int)) < c0)) = true → (InR (signs + (1 : Int)) ∧ ((decide (i = (signs + (1 : Int)))) = true → inIdx signs c4.length) ∧ ((((decide (i = (signs + (1 : Int)))) && (decide ((c4.getD (signs).toNat (0 : Int)) = (b.getD ((0 : Int)).toNat (0 : Int))))) = true → VCc99_k1 K (1 : Int) c5) ∧ (((decide (i = (signs + (1 : Int)))) && (decide ((c4.getD (signs).toNat (0 : Int)) = (b.getD ((0 : Int)).toNat (0 : Int))))) = false → VCc99_k1 K (0 : Int) c5)))) ∧ ((decide ((b.getD ((0 : Int)).toNat (0 : Int)) < c0)) = false → (((decide (signs = i)) = true → VCc99_k1 K (0 : Int) c5) ∧ ((decide (signs = i)) = false → (((mget c5 [(b.getD ((0 : Int)).toNat (0 : Int)), signs, i]).isSome = true → VCc99_k1 K ((mget c5 [(b.getD ((0 : Int)).toNat (0 : Int)), signs, i]).getD (0 : Int)) c5) ∧ ((mget c5 [(b.getD ((0 : Int)).toNat (0 : Int)), signs, i]).isSome = false → Loop (σ := Int × Int × (List (LI × Int))) (fun s X => VCc99_l1 c0 c3 R b signs i K s.1 s.2.1 s.2.2 X) (((mget c5 [(b.getD ((0 : Int)).toNat (0 : Int)), signs, i]).getD (0 : Int)), (0 : Int), c5))))))))) ∧ ((decide ((b.length : Int) = (1 : Int))) = false → (InR (signs + (1 : Int)) ∧ Loop (σ := Int × Int × (List (LI × Int))) (fun s X => VCc99_l2 c0 c3 c4 R b signs i K s.1 s.2.1 s.2.2 X) ((0 : Int), (signs + (1 : Int)), c5)))))))))
set_option maxHeartbeats 4000000 in
theorem linkc99 (c0 : Int) (c1 : Int) (c2 : Int) (c3 : LR) (c4 : LI) (R : LI → Int → Int → (List (LI × Int)) → (Int × (List (LI × Int)) → Prop) → Prop) (hR : ∀ (b : LI) (signs : Int) (i : Int) (c5 : (List (LI × Int))) (K : Int × (List (LI × Int)) → Prop), R b signs i c5 K → LCalls Try.prog 99 [70200, 70201] [70200] [e34_0 c0 c1 c2 c3 c4, e34_2 c5] [.c (.ptr 70200 0), .c (.pS b), .c (.pI signs), .c (.pI i)] (fun av hp' => ∃ y : Int × (List (LI × Int)), av = .v (.c (.pI y.1)) ∧ hp' = [e34_0 c0 c1 c2 c3 c4, (70201, [], .dict (.ar 2 tI) tI y.2)] ∧ K y)) (b : LI) (signs : Int) (i : Int) (c5 : (List (LI × Int))) (K : Int × (List (LI × Int)) → Prop) (h : VCc99 c0 c1 c2 c3 c4 R b signs i c5 K) : LCalls Try.prog 99 [70200, 70201] [70200] [e34_0 c0 c1 c2 c3 c4, e34_2 c5] [.c (.ptr 70200 0), .c (.pS b), .c (.pI signs), .c (.pI i)] (fun av hp' => ∃ y : Int × (List (LI × Int)), av = .v (.c (.pI y.1)) ∧ hp' = [e34_0 c0 c1 c2 c3 c4, (70201, [], .dict (.ar 2 tI) tI y.2)] ∧ K y) := by
 refine lcalls_of_aw [70200, 70201] [70200] [.t 8] Try.func99 rfl rfl (by kernel_rfl) (by kernel_rfl) (by kernel_rfl) ?_
 refine aw_conv [] (st' := (⟨63, [e34_8, e34_15 b, sI 2 signs, sI 3 i, e34_13], [e34_0 c0 c1 c2 c3 c4, e34_2 c5]⟩ : St)) (by kernel_rfl) ?_
 unfold VCc99 at h
 refine srn 1 ⟨63, [e34_8, e34_15 b, sI 2 signs, sI 3 i, e34_13], [e34_0 c0 c1 c2 c3 c4, e34_2 c5]⟩ (by kernel_rfl) rfl ?_
 refine aw_seq ?_
 refine sr ?_
 obtain ⟨o1, h⟩ := h
 refine rq 6 (ob := (Ts 4 (InR (i - signs) ∧ Ts 1 True))) (st' := (⟨63, [e34_8, e34_15 b, sI 2 signs, sI 3 i, sB 17 (decide ((i - signs) < (b.length : Int))), e34_13], [e34_0 c0 c1 c2 c3 c4, e34_2 c5]⟩ : St)) (by kernel_rfl) (tsI 4 ⟨o1, tsI 1 trivial⟩) ?_
 refine nn ?_
 refine aw_cond (b := (decide ((i - signs) < (b.length : Int)))) (by kernel_rfl) (fun hb => ?_) (fun hb => ?_)
 ·have h := h.1 hb
  refine srn 1 ⟨63, [sI 8 (0 : Int), e34_13], [e34_0 c0 c1 c2 c3 c4, e34_2 c5]⟩ (by kernel_rfl) rfl ?_
  refine aw_ret ?_
  refine thenQ_r ?_
  exact lret_r (σ := Int × (List (LI × Int))) (A := fun y => .v (.c (.pI y.1))) (H := fun y => [e34_0 c0 c1 c2 c3 c4, (70201, [], .dict (.ar 2 tI) tI y.2)]) (ob := True) ((0 : Int), c5) (by kernel_rfl) trivial rfl (by kernel_rfl) (by kernel_rfl) (by kernel_rfl) h
 ·have h := h.2 hb
  refine aw_skip ?_
  refine thenQ_n ?_
  refine aw_seq ?_
  refine srn 3 ⟨63, [e34_8, e34_15 b, sI 2 signs, sI 3 i, sB 20 (decide ((b.length : Int) = (0 : Int))), e34_13], [e34_0 c0 c1 c2 c3 c4, e34_2 c5]⟩ (by kernel_rfl) rfl ?_
  refine aw_cond (b := (decide ((b.length : Int) = (0 : Int)))) (by kernel_rfl) (fun hb => ?_) (fun hb => ?_)
  ·have h := h.1 hb
   refine aw_seq ?_
   refine srn 3 ⟨63, [sB 23 (decide (signs = i)), e34_13], [e34_0 c0 c1 c2 c3 c4, e34_2 c5]⟩ (by kernel_rfl) rfl ?_
   refine aw_cond (b := (decide (signs = i))) (by kernel_rfl) (fun hb => ?_) (fun hb => ?_)
   ·have h := h.1 hb
    refine srn 1 ⟨63, [sI 8 (1 : Int), e34_13], [e34_0 c0 c1 c2 c3 c4, e34_2 c5]⟩ (by kernel_rfl) rfl ?_
    refine aw_ret ?_
    refine thenQ_r ?_
    refine thenQ_r ?_
    exact lret_r (σ := Int × (List (LI × Int))) (A := fun y => .v (.c (.pI y.1))) (H := fun y => [e34_0 c0 c1 c2 c3 c4, (70201, [], .dict (.ar 2 tI) tI y.2)]) (ob := True) ((1 : Int), c5) (by kernel_rfl) trivial rfl (by kernel_rfl) (by kernel_rfl) (by kernel_rfl) h
   ·have h := h.2 hb
    refine aw_skip ?_
    refine thenQ_n ?_
    refine srn 1 ⟨63, [sI 8 (0 : Int), e34_13], [e34_0 c0 c1 c2 c3 c4, e34_2 c5]⟩ (by kernel_rfl) rfl ?_
    refine aw_ret ?_
    refine thenQ_r ?_
    exact lret_r (σ := Int × (List (LI × Int))) (A := fun y => .v (.c (.pI y.1))) (H := fun y => [e34_0 c0 c1 c2 c3 c4, (70201, [], .dict (.ar 2 tI) tI y.2)]) (ob := True) ((0 : Int), c5) (by kernel_rfl) trivial rfl (by kernel_rfl) (by kernel_rfl) (by kernel_rfl) h
  ·have h := h.2 hb
   refine aw_skip ?_
   refine thenQ_n ?_
   refine aw_seq ?_
   refine srn 3 ⟨63, [e34_8, e34_15 b, sI 2 signs, sI 3 i, sB 26 (decide ((b.length : Int) = (1 : Int))), e34_13], [e34_0 c0 c1 c2 c3 c4, e34_2 c5]⟩ (by kernel_rfl) rfl ?_
   refine aw_cond (b := (decide ((b.length : Int) = (1 : Int)))) (by kernel_rfl) (fun hb => ?_) (fun hb => ?_)
   ·have h := h.1 hb
    refine sr ?_
    obtain ⟨o1, h⟩ := h
    refine rq 6 (ob := (Ts 2 (inIdx (0 : Int) b.length ∧ Ts 3 True))) (st' := (⟨63, [sp 27 70200, sI 30 (b.getD ((0 : Int)).toNat (0 : Int)), sI 31 signs, sI 32 i, e34_13], [e34_0 c0 c1 c2 c3 c4, e34_2 c5]⟩ : St)) (by kernel_rfl) (tsI 2 ⟨o1, tsI 3 trivial⟩) ?_
    refine awl_inlr [.t 8] [70200, 70201] [.c (.ptr 70200 0), .c (.pI (b.getD ((0 : Int)).toNat (0 : Int))), .c (.pI signs), .c (.pI i)] [] rfl rfl (by kernel_rfl) rfl (by kernel_rfl) Try.call69 (by kernel_rfl) (by kernel_rfl) Try.func69 rfl rfl (by kernel_rfl) ?_
    refine aw_conv [] (st' := (⟨93, [e34_8, e34_1 b, sI 2 signs, sI 3 i, sp 120 70200, sI 123 (b.getD ((0 : Int)).toNat (0 : Int)), sI 124 signs, sI 125 i, e34_7], [e34_0 c0 c1 c2 c3 c4, e34_2 c5]⟩ : St)) (by kernel_rfl) ?_
    refine withJoinR (σ := Int × (List (LI × Int))) (fun s => (⟨93, [sI 8 s.1, e34_7], [e34_0 c0 c1 c2 c3 c4, (70201, [], .dict (.ar 2 tI) tI s.2)]⟩ : St)) (fun s => VCc99_k1 K s.1 s.2) (fun s h => ?_) (fun rest1 => ?_)
    ·obtain ⟨v8, l70201⟩ := s
     have h : VCc99_k1 K v8 l70201 := h
     unfold VCc99_k1 at h
     refine inlR_n (ob := True) (.v (.c (.pI v8))) (by kernel_rfl) trivial rfl ?_
     refine lpr (st' := (⟨63, [sI 33 v8, e34_13], [e34_0 c0 c1 c2 c3 c4, e34_6 l70201]⟩ : St)) (by kernel_rfl) ?_
     refine rqT 1 ⟨63, [sI 8 v8, e34_13], [e34_0 c0 c1 c2 c3 c4, e34_6 l70201]⟩ (by kernel_rfl) ?_
     refine nn ?_
     refine aw_ret ?_
     refine thenQ_r ?_
     exact lret_r (σ := Int × (List (LI × Int))) (A := fun y => .v (.c (.pI y.1))) (H := fun y => [e34_0 c0 c1 c2 c3 c4, (70201, [], .dict (.ar 2 tI) tI y.2)]) (ob := True) (v8, l70201) (by kernel_rfl) trivial rfl (by kernel_rfl) (by kernel_rfl) (by kernel_rfl) h
    ·refine srn 1 ⟨93, [e34_8, e34_1 b, sI 2 signs, sI 3 i, e34_7], [e34_0 c0 c1 c2 c3 c4, e34_2 c5]⟩ (by kernel_rfl) rfl ?_
     refine aw_seq ?_
     refine srn 7 ⟨93, [e34_8, e34_1 b, sI 2 signs, sI 3 i, sB 19 (decide ((b.getD ((0 : Int)).toNat (0 : Int)) < c0)), e34_7], [e34_0 c0 c1 c2 c3 c4, e34_2 c5]⟩ (by kernel_rfl) rfl ?_
     refine aw_cond (b := (decide ((b.getD ((0 : Int)).toNat (0 : Int)) < c0))) (by kernel_rfl) (fun hb => ?_) (fun hb => ?_)
     ·have h := h.1 hb
      refine aw_seq ?_
      refine sr ?_
      obtain ⟨o1, o2, h⟩ := h
      refine rq 15 (ob := (Ts 2 (InR (signs + (1 : Int)) ∧ Ts 2 (Ti 5 ((decide (i = (signs + (1 : Int)))) = true → True) (((decide (i = (signs + (1 : Int)))) = true → inIdx signs c4.length) ∧ Ti 3 ((decide (i = (signs + (1 : Int)))) = true → True) (Ts 1 True)))))) (st' := (⟨93, [sB 34 ((decide (i = (signs + (1 : Int)))) && (decide ((c4.getD (signs).toNat (0 : Int)) = (b.getD ((0 : Int)).toNat (0 : Int))))), e34_7], [e34_0 c0 c1 c2 c3 c4, e34_2 c5]⟩ : St)) (by kernel_rfl) (tsI 2 (⟨o1, tsI 2 (tiI 5 (fun _ => trivial) ⟨o2, tiI 3 (fun _ => trivial) (tsI 1 trivial)⟩)⟩)) ?_
      refine nn ?_
      refine aw_cond (b := ((decide (i = (signs + (1 : Int)))) && (decide ((c4.getD (signs).toNat (0 : Int)) = (b.getD ((0 : Int)).toNat (0 : Int)))))) (by kernel_rfl) (fun hb => ?_) (fun hb => ?_)
      ·have h := h.1 hb
       refine srn 1 ⟨93, [sI 8 (1 : Int), e34_7], [e34_0 c0 c1 c2 c3 c4, e34_2 c5]⟩ (by kernel_rfl) rfl ?_
       refine aw_ret ?_
       refine thenQ_r ?_
       refine thenQ_r ?_
       exact rest1 ((1 : Int), c5) h
      ·have h := h.2 hb
       refine aw_skip ?_
       refine thenQ_n ?_
       refine srn 1 ⟨93, [sI 8 (0 : Int), e34_7], [e34_0 c0 c1 c2 c3 c4, e34_2 c5]⟩ (by kernel_rfl) rfl ?_
       refine aw_ret ?_
       refine thenQ_r ?_
       exact rest1 ((0 : Int), c5) h
     ·have h := h.2 hb
      refine aw_skip ?_
      refine thenQ_n ?_
      refine aw_seq ?_
      refine srn 3 ⟨93, [e34_8, e34_1 b, sI 2 signs, sI 3 i, sB 37 (decide (signs = i)), e34_7], [e34_0 c0 c1 c2 c3 c4, e34_2 c5]⟩ (by kernel_rfl) rfl ?_
      refine aw_cond (b := (decide (signs = i))) (by kernel_rfl) (fun hb => ?_) (fun hb => ?_)
      ·have h := h.1 hb
       refine srn 1 ⟨93, [sI 8 (0 : Int), e34_7], [e34_0 c0 c1 c2 c3 c4, e34_2 c5]⟩ (by kernel_rfl) rfl ?_
       refine aw_ret ?_
       refine thenQ_r ?_
       exact rest1 ((0 : Int), c5) h
      ·have h := h.2 hb
       refine aw_skip ?_
       refine thenQ_n ?_
       refine srn 14 ⟨93, [e34_8, e34_1 b, sI 2 signs, sI 3 i, e34_16 c5 b signs i, sB 10 ((mget c5 [(b.getD ((0 : Int)).toNat (0 : Int)), signs, i]).isSome), e34_7], [e34_0 c0 c1 c2 c3 c4, e34_2 c5]⟩ (by kernel_rfl) rfl ?_
       refine aw_seq ?_
       refine srn 1 ⟨93, [e34_8, e34_1 b, sI 2 signs, sI 3 i, e34_16 c5 b signs i, sB 50 ((mget c5 [(b.getD ((0 : Int)).toNat (0 : Int)), signs, i]).isSome), e34_7], [e34_0 c0 c1 c2 c3 c4, e34_2 c5]⟩ (by kernel_rfl) rfl ?_
       refine aw_cond (b := (mget c5 [(b.getD ((0 : Int)).toNat (0 : Int)), signs, i]).isSome) (by kernel_rfl) (fun hb => ?_) (fun hb => ?_)
       ·have h := h.1 hb
        refine srn 2 ⟨93, [sI 8 ((mget c5 [(b.getD ((0 : Int)).toNat (0 : Int)), signs, i]).getD (0 : Int)), e34_7], [e34_0 c0 c1 c2 c3 c4, e34_2 c5]⟩ (by kernel_rfl) rfl ?_
        refine aw_ret ?_
        refine thenQ_r ?_
        exact rest1 (((mget c5 [(b.getD ((0 : Int)).toNat (0 : Int)), signs, i]).getD (0 : Int)), c5) h
       ·have h := h.2 hb
        refine aw_skip ?_
        refine thenQ_n ?_
        refine aw_seq ?_
        refine srn 7 ⟨93, [e34_8, e34_1 b, sI 2 signs, sI 3 i, e34_16 c5 b signs i, e34_3 c3, e34_9 c3, sI 58 (0 : Int), e34_7], [e34_0 c0 c1 c2 c3 c4, e34_2 c5]⟩ (by kernel_rfl) rfl ?_
        refine withJoin (σ := Int × (List (LI × Int))) (fun s => (⟨93, [e34_8, e34_1 b, sI 2 signs, sI 3 i, sI 9 s.1, e34_7], [e34_0 c0 c1 c2 c3 c4, (70201, [], .dict (.ar 2 tI) tI s.2)]⟩ : St)) (fun s => VCc99_k2 b signs i K s.1 s.2) (fun s h => ?_) (fun rest3 => ?_)
        ·obtain ⟨n, l70201⟩ := s
         have h : VCc99_k2 b signs i K n l70201 := h
         unfold VCc99_k2 at h
         refine thenQ_n ?_
         refine aw_seq ?_
         refine srn 2 ⟨93, [e34_8, e34_1 b, sI 2 signs, sI 3 i, sI 9 n, sB 82 (decide ((1099511627776 : Int) < n)), e34_7], [e34_0 c0 c1 c2 c3 c4, e34_6 l70201]⟩ (by kernel_rfl) rfl ?_
         refine withJoin (σ := Int) (fun s => (⟨93, [e34_8, e34_1 b, sI 2 signs, sI 3 i, sI 9 s, e34_7], [e34_0 c0 c1 c2 c3 c4, e34_6 l70201]⟩ : St)) (fun s => VCc99_k3 b signs i K l70201 s) (fun n2 h => ?_) (fun rest2 => ?_)
         ·have h : VCc99_k3 b signs i K l70201 n2 := h
          unfold VCc99_k3 at h
          refine thenQ_n ?_
          refine sr ?_
          refine rqT 10 ⟨93, [sI 9 n2, e34_7], [e34_0 c0 c1 c2 c3 c4, (70201, [], .dict (.ar 2 tI) tI (mset l70201 [(b.getD ((0 : Int)).toNat (0 : Int)), signs, i] n2))]⟩ (by kernel_rfl) ?_
          refine nsr ?_
          refine rqT 2 ⟨93, [sI 8 n2, e34_7], [e34_0 c0 c1 c2 c3 c4, (70201, [], .dict (.ar 2 tI) tI (mset l70201 [(b.getD ((0 : Int)).toNat (0 : Int)), signs, i] n2))]⟩ (by kernel_rfl) ?_
          refine nn ?_
          refine aw_ret ?_
          exact rest1 (n2, (mset l70201 [(b.getD ((0 : Int)).toNat (0 : Int)), signs, i] n2)) h
         ·refine aw_cond (b := (decide ((1099511627776 : Int) < n))) (by kernel_rfl) (fun hb => ?_) (fun hb => ?_)
          ·have h := h.1 hb
           refine aw_region ?_
           refine rqT 1 ⟨93, [e34_8, e34_1 b, sI 2 signs, sI 3 i, sI 9 (1099511627777 : Int), e34_7], [e34_0 c0 c1 c2 c3 c4, e34_6 l70201]⟩ (by kernel_rfl) ?_
           refine awl_nil ?_
           exact rest2 (1099511627777 : Int) h
          ·have h := h.2 hb
           refine cpr (st' := (⟨93, [e34_8, e34_1 b, sI 2 signs, sI 3 i, sI 9 n, e34_7], [e34_0 c0 c1 c2 c3 c4, e34_6 l70201]⟩ : St)) (by kernel_rfl) ?_
           refine aw_skip ?_
           exact rest2 n h
        ·refine aw_block ?_
         refine aw_loop (σ := Int × Int × (List (LI × Int))) (fun s => (⟨93, [e34_8, e34_1 b, sI 2 signs, sI 3 i, sI 9 s.1, e34_3 c3, e34_9 c3, sI 58 s.2.1, e34_7], [e34_0 c0 c1 c2 c3 c4, (70201, [], .dict (.ar 2 tI) tI s.2.2)]⟩ : St)) (fun s X => VCc99_l1 c0 c3 R b signs i K s.1 s.2.1 s.2.2 X) (s0 := (((mget c5 [(b.getD ((0 : Int)).toNat (0 : Int)), signs, i]).getD (0 : Int)), (0 : Int), c5)) (fun s X1 h => ?_) h
         obtain ⟨n, v58, l70201⟩ := s
         have h : VCc99_l1 c0 c3 R b signs i K n v58 l70201 X1 := h
         unfold VCc99_l1 at h
         refine srn 1 ⟨93, [e34_8, e34_1 b, sI 2 signs, sI 3 i, sI 9 n, e34_3 c3, e34_9 c3, sI 58 v58, sB 59 (decide (v58 < (c3.length : Int))), e34_7], [e34_0 c0 c1 c2 c3 c4, e34_6 l70201]⟩ (by kernel_rfl) rfl ?_
         refine aw_seq ?_
         refine aw_cond (b := (decide (v58 < (c3.length : Int)))) (by kernel_rfl) (fun hb => ?_) (fun hb => ?_)
         ·have h := h.1 hb
          refine aw_skip ?_
          refine thenQ_n ?_
          refine aw_seq ?_
          refine aw_block ?_
          refine sr ?_
          obtain ⟨o1, h⟩ := h
          refine rq 4 (ob := (inIdx v58 c3.length ∧ Ts 3 True)) (st' := (⟨93, [e34_8, e34_1 b, sI 2 signs, sI 3 i, sI 9 n, sp 12 12, e34_3 c3, e34_9 c3, sI 58 v58, e34_7], [e34_11 c3 v58, e34_0 c0 c1 c2 c3 c4, e34_6 l70201]⟩ : St)) (by kernel_rfl) (⟨o1, tsI 3 trivial⟩) ?_
          refine nn ?_
          refine aw_seq ?_
          refine awd_begin [] (by kernel_rfl) ?_
          obtain ⟨o1, h⟩ := h
          refine drq (by kernel_rfl) [0, 1, 2, 3, 4, 5, 6, 7, 8, 9] (ob := (Ts 8 (InR ((b.getD ((0 : Int)).toNat (0 : Int)) - c0) ∧ Ts 1 True))) (done' := [9, 8, 7, 6, 5, 4, 3, 2, 1, 0]) (st' := (⟨93, [e34_8, e34_1 b, sI 2 signs, sI 3 i, sI 9 n, sp 12 12, e34_3 c3, e34_9 c3, sI 58 v58, sB 71 (decide ((c3.getD (v58).toNat ((0 : Int), ([] : LI))).1 = ((b.getD ((0 : Int)).toNat (0 : Int)) - c0))), e34_7], [e34_11 c3 v58, e34_0 c0 c1 c2 c3 c4, e34_6 l70201]⟩ : St)) (by kernel_rfl) (tsI 8 ⟨o1, tsI 1 trivial⟩) ?_
          refine awd_done (by kernel_rfl) ?_
          refine thenQ_n ?_
          refine withJoin (σ := Int × (List (LI × Int))) (fun s => (⟨93, [e34_8, e34_1 b, sI 2 signs, sI 3 i, sI 9 s.1, e34_3 c3, e34_9 c3, sI 58 v58, e34_7], [e34_0 c0 c1 c2 c3 c4, (70201, [], .dict (.ar 2 tI) tI s.2)]⟩ : St)) (fun s => VCc99_k4 v58 X1 s.1 s.2) (fun s h => ?_) (fun rest4 => ?_)
          ·obtain ⟨n2, l702012⟩ := s
           have h : VCc99_k4 v58 X1 n2 l702012 := h
           unfold VCc99_k4 at h
           refine blockQ_n ?_
           refine thenQ_n ?_
           refine aw_region ?_
           obtain ⟨o1, h⟩ := h
           refine rq 2 (ob := (InR (v58 + (1 : Int)) ∧ Ts 1 True)) (st' := (⟨93, [e34_8, e34_1 b, sI 2 signs, sI 3 i, sI 9 n2, e34_3 c3, e34_9 c3, sI 58 (v58 + (1 : Int)), e34_7], [e34_0 c0 c1 c2 c3 c4, e34_4 l702012]⟩ : St)) (by kernel_rfl) (⟨o1, tsI 1 trivial⟩) ?_
           refine awl_nil ?_
           exact thenQ_n ⟨(n2, (v58 + (1 : Int)), l702012), rfl, h⟩
          ·refine aw_cond (b := (decide ((c3.getD (v58).toNat ((0 : Int), ([] : LI))).1 = ((b.getD ((0 : Int)).toNat (0 : Int)) - c0)))) (by kernel_rfl) (fun hb => ?_) (fun hb => ?_)
           ·have h := h.1 hb
            refine aw_region ?_
            refine rqT 6 ⟨93, [e34_8, e34_1 b, sI 2 signs, sI 3 i, e34_3 c3, e34_9 c3, sI 58 v58, sI 72 n, sp 73 70200, e34_17 c3 v58, sI 76 signs, sI 77 i, e34_7], [e34_0 c0 c1 c2 c3 c4, e34_6 l70201]⟩ (by kernel_rfl) ?_
            refine awl_lcall (σ := Int × (List (LI × Int))) [70200, 70201] [70200] [.c (.ptr 70200 0), .c (.pS ((c3.getD (v58).toNat ((0 : Int), ([] : LI))).2)), .c (.pI signs), .c (.pI i)] [] (fun ret78v => .v (.c (.pI ret78v.1))) (fun ret78v => [e34_0 c0 c1 c2 c3 c4, e34_10 ret78v]) (_) [e34_0 c0 c1 c2 c3 c4, e34_6 l70201] (fun ret78v => (⟨93, [sI 78 ret78v.1, e34_8, e34_1 b, sI 2 signs, sI 3 i, e34_3 c3, e34_9 c3, sI 58 v58, sI 72 n, sp 73 70200, e34_17 c3 v58, sI 76 signs, sI 77 i, e34_7], [e34_0 c0 c1 c2 c3 c4, e34_10 ret78v]⟩ : St)) rfl rfl (by kernel_rfl) rfl (by kernel_rfl) Try.call99 (by kernel_rfl) (by kernel_rfl) (by kernel_rfl) (fun _ _ => rfl) (fun _ => by kernel_rfl) (hR ((c3.getD (v58).toNat ((0 : Int), ([] : LI))).2) signs i l70201 _ h) (fun ret78v h => ?_)
            refine lpr (st' := (⟨93, [e34_8, e34_1 b, sI 2 signs, sI 3 i, e34_3 c3, e34_9 c3, sI 58 v58, sI 72 n, sI 78 ret78v.1, e34_7], [e34_0 c0 c1 c2 c3 c4, e34_10 ret78v]⟩ : St)) (by kernel_rfl) ?_
            obtain ⟨o1, h⟩ := h
            refine rq 2 (ob := (InR (n + ret78v.1) ∧ Ts 1 True)) (st' := (⟨93, [e34_8, e34_1 b, sI 2 signs, sI 3 i, sI 9 (n + ret78v.1), e34_3 c3, e34_9 c3, sI 58 v58, e34_7], [e34_0 c0 c1 c2 c3 c4, e34_10 ret78v]⟩ : St)) (by kernel_rfl) (⟨o1, tsI 1 trivial⟩) ?_
            refine awl_nil ?_
            exact rest4 ((n + ret78v.1), ret78v.2) h
           ·have h := h.2 hb
            refine cpr (st' := (⟨93, [e34_8, e34_1 b, sI 2 signs, sI 3 i, sI 9 n, e34_3 c3, e34_9 c3, sI 58 v58, e34_7], [e34_0 c0 c1 c2 c3 c4, e34_6 l70201]⟩ : St)) (by kernel_rfl) ?_
            refine aw_skip ?_
            exact rest4 (n, l70201) h
         ·have h := h.2 hb
          refine cpr (st' := (⟨93, [e34_8, e34_1 b, sI 2 signs, sI 3 i, sI 9 n, e34_7], [e34_0 c0 c1 c2 c3 c4, e34_6 l70201]⟩ : St)) (by kernel_rfl) ?_
          refine aw_exit ?_
          refine thenQ_x ?_
          refine thenQ_x ?_
          refine blockQ_hit ?_
          exact rest3 (n, l70201) h
   ·have h := h.2 hb
    refine aw_skip ?_
    refine thenQ_n ?_
    refine srn 1 ⟨63, [e34_8, e34_15 b, sI 2 signs, sI 3 i, sI 9 (0 : Int), e34_13], [e34_0 c0 c1 c2 c3 c4, e34_2 c5]⟩ (by kernel_rfl) rfl ?_
    refine aw_seq ?_
    refine sr ?_
    obtain ⟨o1, h⟩ := h
    refine rq 3 (ob := (Ts 1 (InR (signs + (1 : Int)) ∧ Ts 1 True))) (st' := (⟨63, [e34_8, e34_15 b, sI 2 signs, sI 3 i, sI 9 (0 : Int), sI 10 (signs + (1 : Int)), e34_13], [e34_0 c0 c1 c2 c3 c4, e34_2 c5]⟩ : St)) (by kernel_rfl) (tsI 1 ⟨o1, tsI 1 trivial⟩) ?_
    refine nn ?_
    refine withJoin (σ := Int × (List (LI × Int))) (fun s => (⟨63, [sI 9 s.1, e34_13], [e34_0 c0 c1 c2 c3 c4, (70201, [], .dict (.ar 2 tI) tI s.2)]⟩ : St)) (fun s => VCc99_k5 K s.1 s.2) (fun s h => ?_) (fun rest5 => ?_)
    ·obtain ⟨sumv, l70201⟩ := s
     have h : VCc99_k5 K sumv l70201 := h
     unfold VCc99_k5 at h
     refine thenQ_n ?_
     refine srn 2 ⟨63, [sI 8 sumv, e34_13], [e34_0 c0 c1 c2 c3 c4, e34_6 l70201]⟩ (by kernel_rfl) rfl ?_
     refine aw_ret ?_
     exact lret_r (σ := Int × (List (LI × Int))) (A := fun y => .v (.c (.pI y.1))) (H := fun y => [e34_0 c0 c1 c2 c3 c4, (70201, [], .dict (.ar 2 tI) tI y.2)]) (ob := True) (sumv, l70201) (by kernel_rfl) trivial rfl (by kernel_rfl) (by kernel_rfl) (by kernel_rfl) h
    ·refine aw_block ?_
     refine aw_loop (σ := Int × Int × (List (LI × Int))) (fun s => (⟨63, [e34_8, e34_15 b, sI 2 signs, sI 3 i, sI 9 s.1, sI 10 s.2.1, e34_13], [e34_0 c0 c1 c2 c3 c4, (70201, [], .dict (.ar 2 tI) tI s.2.2)]⟩ : St)) (fun s X => VCc99_l2 c0 c3 c4 R b signs i K s.1 s.2.1 s.2.2 X) (s0 := ((0 : Int), (signs + (1 : Int)), c5)) (fun s X2 h => ?_) h
     obtain ⟨sumv, m, l70201⟩ := s
     have h : VCc99_l2 c0 c3 c4 R b signs i K sumv m l70201 X2 := h
     unfold VCc99_l2 at h
     refine aw_seq ?_
     refine srn 3 ⟨63, [e34_8, e34_15 b, sI 2 signs, sI 3 i, sI 9 sumv, sI 10 m, sB 38 (decide (m < i)), e34_13], [e34_0 c0 c1 c2 c3 c4, e34_6 l70201]⟩ (by kernel_rfl) rfl ?_
     refine aw_cond (b := (decide (m < i))) (by kernel_rfl) (fun hb => ?_) (fun hb => ?_)
     ·have h := h.1 hb
      refine aw_skip ?_
      refine thenQ_n ?_
      refine aw_seq ?_
      refine aw_block ?_
      refine sr ?_
      obtain ⟨o1, h⟩ := h
      refine rq 5 (ob := (Ts 2 ((0 ≤ (1 : Int) ∧ (1 : Int) ≤ (b.length : Int)) ∧ Ts 2 True))) (st' := (⟨63, [e34_8, e34_15 b, sI 2 signs, sI 3 i, sI 9 sumv, sI 10 m, sp 41 70200, s1 43 (.pS (b.drop ((1 : Int)).toNat)), sI 44 m, sI 45 i, e34_13], [e34_0 c0 c1 c2 c3 c4, e34_6 l70201]⟩ : St)) (by kernel_rfl) (tsI 2 ⟨o1, tsI 2 trivial⟩) ?_
      refine awl_lcall (σ := Int × (List (LI × Int))) [70200, 70201] [70200] [.c (.ptr 70200 0), .c (.pS (b.drop ((1 : Int)).toNat)), .c (.pI m), .c (.pI i)] [] (fun ret46v => .v (.c (.pI ret46v.1))) (fun ret46v => [e34_0 c0 c1 c2 c3 c4, e34_5 ret46v]) (_) [e34_0 c0 c1 c2 c3 c4, e34_6 l70201] (fun ret46v => (⟨63, [sI 46 ret46v.1, e34_8, e34_15 b, sI 2 signs, sI 3 i, sI 9 sumv, sI 10 m, sp 41 70200, s1 43 (.pS (b.drop ((1 : Int)).toNat)), sI 44 m, sI 45 i, e34_13], [e34_0 c0 c1 c2 c3 c4, e34_5 ret46v]⟩ : St)) rfl rfl (by kernel_rfl) rfl (by kernel_rfl) Try.call99 (by kernel_rfl) (by kernel_rfl) (by kernel_rfl) (fun _ _ => rfl) (fun _ => by kernel_rfl) (hR (b.drop ((1 : Int)).toNat) m i l70201 _ h) (fun ret46v h => ?_)
      refine lpr (st' := (⟨63, [e34_8, e34_15 b, sI 2 signs, sI 3 i, sI 9 sumv, sI 10 m, sI 46 ret46v.1, e34_13], [e34_0 c0 c1 c2 c3 c4, e34_5 ret46v]⟩ : St)) (by kernel_rfl) ?_
      refine rqT 1 ⟨63, [e34_8, e34_15 b, sI 2 signs, sI 3 i, sI 9 sumv, sI 10 m, sI 11 ret46v.1, e34_13], [e34_0 c0 c1 c2 c3 c4, e34_5 ret46v]⟩ (by kernel_rfl) ?_
      refine nn ?_
      refine aw_seq ?_
      refine srn 2 ⟨63, [e34_8, e34_15 b, sI 2 signs, sI 3 i, sI 9 sumv, sI 10 m, sI 11 ret46v.1, sB 48 (decide ((0 : Int) < ret46v.1)), e34_13], [e34_0 c0 c1 c2 c3 c4, e34_5 ret46v]⟩ (by kernel_rfl) rfl ?_
      refine withJoin (σ := Int × (List (LI × Int))) (fun s => (⟨63, [e34_8, e34_15 b, sI 2 signs, sI 3 i, sI 9 s.1, sI 10 m, e34_13], [e34_0 c0 c1 c2 c3 c4, (70201, [], .dict (.ar 2 tI) tI s.2)]⟩ : St)) (fun s => VCc99_k6 m X2 s.1 s.2) (fun s h => ?_) (fun rest7 => ?_)
      ·obtain ⟨sumv2, l702012⟩ := s
       have h : VCc99_k6 m X2 sumv2 l702012 := h
       unfold VCc99_k6 at h
       refine thenQ_n ?_
       refine srn 2 ⟨63, [e34_8, e34_15 b, sI 2 signs, sI 3 i, sI 9 sumv2, sI 10 m, sB 61 (decide ((1099511627776 : Int) < sumv2)), e34_13], [e34_0 c0 c1 c2 c3 c4, e34_4 l702012]⟩ (by kernel_rfl) rfl ?_
       refine withJoin (σ := Int) (fun s => (⟨63, [e34_8, e34_15 b, sI 2 signs, sI 3 i, sI 9 s, sI 10 m, e34_13], [e34_0 c0 c1 c2 c3 c4, e34_4 l702012]⟩ : St)) (fun s => VCc99_k7 m X2 l702012 s) (fun sumv3 h => ?_) (fun rest6 => ?_)
       ·have h : VCc99_k7 m X2 l702012 sumv3 := h
        unfold VCc99_k7 at h
        refine blockQ_n ?_
        refine thenQ_n ?_
        refine aw_region ?_
        obtain ⟨o1, h⟩ := h
        refine rq 3 (ob := (Ts 1 (InR (m + (1 : Int)) ∧ Ts 1 True))) (st' := (⟨63, [e34_8, e34_15 b, sI 2 signs, sI 3 i, sI 9 sumv3, sI 10 (m + (1 : Int)), e34_13], [e34_0 c0 c1 c2 c3 c4, e34_4 l702012]⟩ : St)) (by kernel_rfl) (tsI 1 ⟨o1, tsI 1 trivial⟩) ?_
        refine awl_nil ?_
        exact thenQ_n ⟨(sumv3, (m + (1 : Int)), l702012), rfl, h⟩
       ·refine aw_cond (b := (decide ((1099511627776 : Int) < sumv2))) (by kernel_rfl) (fun hb => ?_) (fun hb => ?_)
        ·have h := h.1 hb
         refine aw_region ?_
         refine rqT 1 ⟨63, [e34_8, e34_15 b, sI 2 signs, sI 3 i, sI 9 (1099511627777 : Int), sI 10 m, e34_13], [e34_0 c0 c1 c2 c3 c4, e34_4 l702012]⟩ (by kernel_rfl) ?_
         refine awl_nil ?_
         exact rest6 (1099511627777 : Int) h
        ·have h := h.2 hb
         refine cpr (st' := (⟨63, [e34_8, e34_15 b, sI 2 signs, sI 3 i, sI 9 sumv2, sI 10 m, e34_13], [e34_0 c0 c1 c2 c3 c4, e34_4 l702012]⟩ : St)) (by kernel_rfl) ?_
         refine aw_skip ?_
         exact rest6 sumv2 h
      ·refine aw_cond (b := (decide ((0 : Int) < ret46v.1))) (by kernel_rfl) (fun hb => ?_) (fun hb => ?_)
       ·have h := h.1 hb
        refine aw_region ?_
        obtain ⟨o1, h⟩ := h
        refine rq 7 (ob := (Ts 3 (inIdx (0 : Int) b.length ∧ Ts 3 True))) (st' := (⟨63, [e34_8, e34_15 b, sI 2 signs, sI 3 i, sI 10 m, sI 11 ret46v.1, sI 49 sumv, sp 50 70200, sI 53 (b.getD ((0 : Int)).toNat (0 : Int)), sI 54 signs, sI 55 m, e34_13], [e34_0 c0 c1 c2 c3 c4, e34_5 ret46v]⟩ : St)) (by kernel_rfl) (tsI 3 ⟨o1, tsI 3 trivial⟩) ?_
        refine awl_inlr [.t 8] [70200, 70201] [.c (.ptr 70200 0), .c (.pI (b.getD ((0 : Int)).toNat (0 : Int))), .c (.pI signs), .c (.pI m)] [] rfl rfl (by kernel_rfl) rfl (by kernel_rfl) Try.call69 (by kernel_rfl) (by kernel_rfl) Try.func69 rfl rfl (by kernel_rfl) ?_
        refine aw_conv [] (st' := (⟨93, [e34_8, e34_1 b, sI 2 signs, sI 3 m, e34_14, e34_12 b, sI 95 signs, sI 96 i, sI 103 m, sI 104 ret46v.1, sI 142 sumv, sp 143 70200, sI 146 (b.getD ((0 : Int)).toNat (0 : Int)), sI 147 signs, sI 148 m, e34_7], [e34_0 c0 c1 c2 c3 c4, e34_5 ret46v]⟩ : St)) (by kernel_rfl) ?_
        refine withJoinR (σ := Int × (List (LI × Int))) (fun s => (⟨93, [sI 8 s.1, e34_14, e34_12 b, sI 95 signs, sI 96 i, sI 103 m, sI 104 ret46v.1, sI 142 sumv, e34_7], [e34_0 c0 c1 c2 c3 c4, (70201, [], .dict (.ar 2 tI) tI s.2)]⟩ : St)) (fun s => VCc99_k8 sumv m X2 ret46v s.1 s.2) (fun s h => ?_) (fun rest8 => ?_)
        ·obtain ⟨v8, l702012⟩ := s
         have h : VCc99_k8 sumv m X2 ret46v v8 l702012 := h
         unfold VCc99_k8 at h
         refine inlR_n (ob := True) (.v (.c (.pI v8))) (by kernel_rfl) trivial rfl ?_
         refine lpr (st' := (⟨63, [e34_8, e34_15 b, sI 2 signs, sI 3 i, sI 10 m, sI 11 ret46v.1, sI 49 sumv, sI 56 v8, e34_13], [e34_0 c0 c1 c2 c3 c4, e34_4 l702012]⟩ : St)) (by kernel_rfl) ?_
         refine rqT 1 ⟨63, [e34_8, e34_15 b, sI 2 signs, sI 3 i, sI 10 m, sI 49 sumv, sI 56 v8, sI 57 ret46v.1, e34_13], [e34_0 c0 c1 c2 c3 c4, e34_4 l702012]⟩ (by kernel_rfl) ?_
         refine lcq (d := 58) [.d tI, .d tI] (fun ret58v => (⟨63, [e34_8, e34_15 b, sI 2 signs, sI 3 i, sI 10 m, sI 49 sumv, sI 58 ret58v, e34_13], [e34_0 c0 c1 c2 c3 c4, e34_4 l702012]⟩ : St)) (by kernel_rfl) Try.call125 (fun _ => by kernel_rfl) (link125 v8 ret46v.1 _ h) (fun ret58v h => ?_)
         obtain ⟨o1, h⟩ := h
         refine rq 2 (ob := (InR (sumv + ret58v) ∧ Ts 1 True)) (st' := (⟨63, [e34_8, e34_15 b, sI 2 signs, sI 3 i, sI 9 (sumv + ret58v), sI 10 m, e34_13], [e34_0 c0 c1 c2 c3 c4, e34_4 l702012]⟩ : St)) (by kernel_rfl) (⟨o1, tsI 1 trivial⟩) ?_
         refine awl_nil ?_
         exact rest7 ((sumv + ret58v), l702012) h
        ·refine srn 1 ⟨93, [e34_8, e34_1 b, sI 2 signs, sI 3 m, e34_14, e34_12 b, sI 95 signs, sI 96 i, sI 103 m, sI 104 ret46v.1, sI 142 sumv, e34_7], [e34_0 c0 c1 c2 c3 c4, e34_5 ret46v]⟩ (by kernel_rfl) rfl ?_
         refine aw_seq ?_
         refine srn 7 ⟨93, [e34_8, e34_1 b, sI 2 signs, sI 3 m, sB 19 (decide ((b.getD ((0 : Int)).toNat (0 : Int)) < c0)), e34_14, e34_12 b, sI 95 signs, sI 96 i, sI 103 m, sI 104 ret46v.1, sI 142 sumv, e34_7], [e34_0 c0 c1 c2 c3 c4, e34_5 ret46v]⟩ (by kernel_rfl) rfl ?_
         refine aw_cond (b := (decide ((b.getD ((0 : Int)).toNat (0 : Int)) < c0))) (by kernel_rfl) (fun hb => ?_) (fun hb => ?_)
         ·have h := h.1 hb
          refine aw_seq ?_
          refine sr ?_
          obtain ⟨o1, o2, h⟩ := h
          refine rq 15 (ob := (Ts 2 (InR (signs + (1 : Int)) ∧ Ts 2 (Ti 5 ((decide (m = (signs + (1 : Int)))) = true → True) (((decide (m = (signs + (1 : Int)))) = true → inIdx signs c4.length) ∧ Ti 3 ((decide (m = (signs + (1 : Int)))) = true → True) (Ts 1 True)))))) (st' := (⟨93, [sB 34 ((decide (m = (signs + (1 : Int)))) && (decide ((c4.getD (signs).toNat (0 : Int)) = (b.getD ((0 : Int)).toNat (0 : Int))))), e34_14, e34_12 b, sI 95 signs, sI 96 i, sI 103 m, sI 104 ret46v.1, sI 142 sumv, e34_7], [e34_0 c0 c1 c2 c3 c4, e34_5 ret46v]⟩ : St)) (by kernel_rfl) (tsI 2 (⟨o1, tsI 2 (tiI 5 (fun _ => trivial) ⟨o2, tiI 3 (fun _ => trivial) (tsI 1 trivial)⟩)⟩)) ?_
          refine nn ?_
          refine aw_cond (b := ((decide (m = (signs + (1 : Int)))) && (decide ((c4.getD (signs).toNat (0 : Int)) = (b.getD ((0 : Int)).toNat (0 : Int)))))) (by kernel_rfl) (fun hb => ?_) (fun hb => ?_)
          ·have h := h.1 hb
           refine srn 1 ⟨93, [sI 8 (1 : Int), e34_14, e34_12 b, sI 95 signs, sI 96 i, sI 103 m, sI 104 ret46v.1, sI 142 sumv, e34_7], [e34_0 c0 c1 c2 c3 c4, e34_5 ret46v]⟩ (by kernel_rfl) rfl ?_
           refine aw_ret ?_
           refine thenQ_r ?_
           refine thenQ_r ?_
           exact rest8 ((1 : Int), ret46v.2) h
          ·have h := h.2 hb
           refine aw_skip ?_
           refine thenQ_n ?_
           refine srn 1 ⟨93, [sI 8 (0 : Int), e34_14, e34_12 b, sI 95 signs, sI 96 i, sI 103 m, sI 104 ret46v.1, sI 142 sumv, e34_7], [e34_0 c0 c1 c2 c3 c4, e34_5 ret46v]⟩ (by kernel_rfl) rfl ?_
           refine aw_ret ?_
           refine thenQ_r ?_
           exact rest8 ((0 : Int), ret46v.2) h
         ·have h := h.2 hb
          refine aw_skip ?_
          refine thenQ_n ?_
          refine aw_seq ?_
          refine srn 3 ⟨93, [e34_8, e34_1 b, sI 2 signs, sI 3 m, sB 37 (decide (signs = m)), e34_14, e34_12 b, sI 95 signs, sI 96 i, sI 103 m, sI 104 ret46v.1, sI 142 sumv, e34_7], [e34_0 c0 c1 c2 c3 c4, e34_5 ret46v]⟩ (by kernel_rfl) rfl ?_
          refine aw_cond (b := (decide (signs = m))) (by kernel_rfl) (fun hb => ?_) (fun hb => ?_)
          ·have h := h.1 hb
           refine srn 1 ⟨93, [sI 8 (0 : Int), e34_14, e34_12 b, sI 95 signs, sI 96 i, sI 103 m, sI 104 ret46v.1, sI 142 sumv, e34_7], [e34_0 c0 c1 c2 c3 c4, e34_5 ret46v]⟩ (by kernel_rfl) rfl ?_
           refine aw_ret ?_
           refine thenQ_r ?_
           exact rest8 ((0 : Int), ret46v.2) h
          ·have h := h.2 hb
           refine aw_skip ?_
           refine thenQ_n ?_
           refine srn 14 ⟨93, [e34_8, e34_1 b, sI 2 signs, sI 3 m, sI 9 ((mget ret46v.2 [(b.getD ((0 : Int)).toNat (0 : Int)), signs, m]).getD (0 : Int)), sB 10 ((mget ret46v.2 [(b.getD ((0 : Int)).toNat (0 : Int)), signs, m]).isSome), e34_14, e34_12 b, sI 95 signs, sI 96 i, sI 103 m, sI 104 ret46v.1, sI 142 sumv, e34_7], [e34_0 c0 c1 c2 c3 c4, e34_5 ret46v]⟩ (by kernel_rfl) rfl ?_
           refine aw_seq ?_
           refine srn 1 ⟨93, [e34_8, e34_1 b, sI 2 signs, sI 3 m, sI 9 ((mget ret46v.2 [(b.getD ((0 : Int)).toNat (0 : Int)), signs, m]).getD (0 : Int)), sB 50 ((mget ret46v.2 [(b.getD ((0 : Int)).toNat (0 : Int)), signs, m]).isSome), e34_14, e34_12 b, sI 95 signs, sI 96 i, sI 103 m, sI 104 ret46v.1, sI 142 sumv, e34_7], [e34_0 c0 c1 c2 c3 c4, e34_5 ret46v]⟩ (by kernel_rfl) rfl ?_
           refine aw_cond (b := (mget ret46v.2 [(b.getD ((0 : Int)).toNat (0 : Int)), signs, m]).isSome) (by kernel_rfl) (fun hb => ?_) (fun hb => ?_)
           ·have h := h.1 hb
            refine srn 2 ⟨93, [sI 8 ((mget ret46v.2 [(b.getD ((0 : Int)).toNat (0 : Int)), signs, m]).getD (0 : Int)), e34_14, e34_12 b, sI 95 signs, sI 96 i, sI 103 m, sI 104 ret46v.1, sI 142 sumv, e34_7], [e34_0 c0 c1 c2 c3 c4, e34_5 ret46v]⟩ (by kernel_rfl) rfl ?_
            refine aw_ret ?_
            refine thenQ_r ?_
            exact rest8 (((mget ret46v.2 [(b.getD ((0 : Int)).toNat (0 : Int)), signs, m]).getD (0 : Int)), ret46v.2) h
           ·have h := h.2 hb
            refine aw_skip ?_
            refine thenQ_n ?_
            refine aw_seq ?_
            refine srn 7 ⟨93, [e34_8, e34_1 b, sI 2 signs, sI 3 m, sI 9 ((mget ret46v.2 [(b.getD ((0 : Int)).toNat (0 : Int)), signs, m]).getD (0 : Int)), e34_3 c3, e34_9 c3, sI 58 (0 : Int), e34_14, e34_12 b, sI 95 signs, sI 96 i, sI 103 m, sI 104 ret46v.1, sI 142 sumv, e34_7], [e34_0 c0 c1 c2 c3 c4, e34_5 ret46v]⟩ (by kernel_rfl) rfl ?_
            refine withJoin (σ := Int × (List (LI × Int))) (fun s => (⟨93, [e34_8, e34_1 b, sI 2 signs, sI 3 m, sI 9 s.1, e34_14, e34_12 b, sI 95 signs, sI 96 i, sI 103 m, sI 104 ret46v.1, sI 142 sumv, e34_7], [e34_0 c0 c1 c2 c3 c4, (70201, [], .dict (.ar 2 tI) tI s.2)]⟩ : St)) (fun s => VCc99_k9 b signs sumv m X2 ret46v s.1 s.2) (fun s h => ?_) (fun rest10 => ?_)
            ·obtain ⟨n, l702012⟩ := s
             have h : VCc99_k9 b signs sumv m X2 ret46v n l702012 := h
             unfold VCc99_k9 at h
             refine thenQ_n ?_
             refine aw_seq ?_
             refine srn 2 ⟨93, [e34_8, e34_1 b, sI 2 signs, sI 3 m, sI 9 n, sB 82 (decide ((1099511627776 : Int) < n)), e34_14, e34_12 b, sI 95 signs, sI 96 i, sI 103 m, sI 104 ret46v.1, sI 142 sumv, e34_7], [e34_0 c0 c1 c2 c3 c4, e34_4 l702012]⟩ (by kernel_rfl) rfl ?_
             refine withJoin (σ := Int) (fun s => (⟨93, [e34_8, e34_1 b, sI 2 signs, sI 3 m, sI 9 s, e34_14, e34_12 b, sI 95 signs, sI 96 i, sI 103 m, sI 104 ret46v.1, sI 142 sumv, e34_7], [e34_0 c0 c1 c2 c3 c4, e34_4 l702012]⟩ : St)) (fun s => VCc99_k10 b signs sumv m X2 ret46v l702012 s) (fun n2 h => ?_) (fun rest9 => ?_)
             ·have h : VCc99_k10 b signs sumv m X2 ret46v l702012 n2 := h
              unfold VCc99_k10 at h
              refine thenQ_n ?_
              refine sr ?_
              refine rqT 10 ⟨93, [sI 9 n2, e34_14, e34_12 b, sI 95 signs, sI 96 i, sI 103 m, sI 104 ret46v.1, sI 142 sumv, e34_7], [e34_0 c0 c1 c2 c3 c4, (70201, [], .dict (.ar 2 tI) tI (mset l702012 [(b.getD ((0 : Int)).toNat (0 : Int)), signs, m] n2))]⟩ (by kernel_rfl) ?_
              refine nsr ?_
              refine rqT 2 ⟨93, [sI 8 n2, e34_14, e34_12 b, sI 95 signs, sI 96 i, sI 103 m, sI 104 ret46v.1, sI 142 sumv, e34_7], [e34_0 c0 c1 c2 c3 c4, (70201, [], .dict (.ar 2 tI) tI (mset l702012 [(b.getD ((0 : Int)).toNat (0 : Int)), signs, m] n2))]⟩ (by kernel_rfl) ?_
              refine nn ?_
              refine aw_ret ?_
              exact rest8 (n2, (mset l702012 [(b.getD ((0 : Int)).toNat (0 : Int)), signs, m] n2)) h
             ·refine aw_cond (b := (decide ((1099511627776 : Int) < n))) (by kernel_rfl) (fun hb => ?_) (fun hb => ?_)
              ·have h := h.1 hb
               refine aw_region ?_
               refine rqT 1 ⟨93, [e34_8, e34_1 b, sI 2 signs, sI 3 m, sI 9 (1099511627777 : Int), e34_14, e34_12 b, sI 95 signs, sI 96 i, sI 103 m, sI 104 ret46v.1, sI 142 sumv, e34_7], [e34_0 c0 c1 c2 c3 c4, e34_4 l702012]⟩ (by kernel_rfl) ?_
               refine awl_nil ?_
               exact rest9 (1099511627777 : Int) h
              ·have h := h.2 hb
               refine cpr (st' := (⟨93, [e34_8, e34_1 b, sI 2 signs, sI 3 m, sI 9 n, e34_14, e34_12 b, sI 95 signs, sI 96 i, sI 103 m, sI 104 ret46v.1, sI 142 sumv, e34_7], [e34_0 c0 c1 c2 c3 c4, e34_4 l702012]⟩ : St)) (by kernel_rfl) ?_
               refine aw_skip ?_
               exact rest9 n h
            ·refine aw_block ?_
             refine aw_loop (σ := Int × Int × (List (LI × Int))) (fun s => (⟨93, [e34_8, e34_1 b, sI 2 signs, sI 3 m, sI 9 s.1, e34_3 c3, e34_9 c3, sI 58 s.2.1, e34_14, e34_12 b, sI 95 signs, sI 96 i, sI 103 m, sI 104 ret46v.1, sI 142 sumv, e34_7], [e34_0 c0 c1 c2 c3 c4, (70201, [], .dict (.ar 2 tI) tI s.2.2)]⟩ : St)) (fun s X => VCc99_l3 c0 c3 R b signs sumv m X2 ret46v s.1 s.2.1 s.2.2 X) (s0 := (((mget ret46v.2 [(b.getD ((0 : Int)).toNat (0 : Int)), signs, m]).getD (0 : Int)), (0 : Int), ret46v.2)) (fun s X3 h => ?_) h
             obtain ⟨n, v58, l702012⟩ := s
             have h : VCc99_l3 c0 c3 R b signs sumv m X2 ret46v n v58 l702012 X3 := h
             unfold VCc99_l3 at h
             refine srn 1 ⟨93, [e34_8, e34_1 b, sI 2 signs, sI 3 m, sI 9 n, e34_3 c3, e34_9 c3, sI 58 v58, sB 59 (decide (v58 < (c3.length : Int))), e34_14, e34_12 b, sI 95 signs, sI 96 i, sI 103 m, sI 104 ret46v.1, sI 142 sumv, e34_7], [e34_0 c0 c1 c2 c3 c4, e34_4 l702012]⟩ (by kernel_rfl) rfl ?_
             refine aw_seq ?_
             refine aw_cond (b := (decide (v58 < (c3.length : Int)))) (by kernel_rfl) (fun hb => ?_) (fun hb => ?_)
             ·have h := h.1 hb
              refine aw_skip ?_
              refine thenQ_n ?_
              refine aw_seq ?_
              refine aw_block ?_
              refine sr ?_
              obtain ⟨o1, h⟩ := h
              refine rq 4 (ob := (inIdx v58 c3.length ∧ Ts 3 True)) (st' := (⟨93, [e34_8, e34_1 b, sI 2 signs, sI 3 m, sI 9 n, sp 12 12, e34_3 c3, e34_9 c3, sI 58 v58, e34_14, e34_12 b, sI 95 signs, sI 96 i, sI 103 m, sI 104 ret46v.1, sI 142 sumv, e34_7], [e34_11 c3 v58, e34_0 c0 c1 c2 c3 c4, e34_4 l702012]⟩ : St)) (by kernel_rfl) (⟨o1, tsI 3 trivial⟩) ?_
              refine nn ?_
              refine aw_seq ?_
              refine awd_begin [] (by kernel_rfl) ?_
              obtain ⟨o1, h⟩ := h
              refine drq (by kernel_rfl) [0, 1, 2, 3, 4, 5, 6, 7, 8, 9] (ob := (Ts 8 (InR ((b.getD ((0 : Int)).toNat (0 : Int)) - c0) ∧ Ts 1 True))) (done' := [9, 8, 7, 6, 5, 4, 3, 2, 1, 0]) (st' := (⟨93, [e34_8, e34_1 b, sI 2 signs, sI 3 m, sI 9 n, sp 12 12, e34_3 c3, e34_9 c3, sI 58 v58, sB 71 (decide ((c3.getD (v58).toNat ((0 : Int), ([] : LI))).1 = ((b.getD ((0 : Int)).toNat (0 : Int)) - c0))), e34_14, e34_12 b, sI 95 signs, sI 96 i, sI 103 m, sI 104 ret46v.1, sI 142 sumv, e34_7], [e34_11 c3 v58, e34_0 c0 c1 c2 c3 c4, e34_4 l702012]⟩ : St)) (by kernel_rfl) (tsI 8 ⟨o1, tsI 1 trivial⟩) ?_
              refine awd_done (by kernel_rfl) ?_
              refine thenQ_n ?_
              refine withJoin (σ := Int × (List (LI × Int))) (fun s => (⟨93, [e34_8, e34_1 b, sI 2 signs, sI 3 m, sI 9 s.1, e34_3 c3, e34_9 c3, sI 58 v58, e34_14, e34_12 b, sI 95 signs, sI 96 i, sI 103 m, sI 104 ret46v.1, sI 142 sumv, e34_7], [e34_0 c0 c1 c2 c3 c4, (70201, [], .dict (.ar 2 tI) tI s.2)]⟩ : St)) (fun s => VCc99_k11 v58 X3 s.1 s.2) (fun s h => ?_) (fun rest11 => ?_)
              ·obtain ⟨n2, l702013⟩ := s
               have h : VCc99_k11 v58 X3 n2 l702013 := h
               unfold VCc99_k11 at h
               refine blockQ_n ?_
               refine thenQ_n ?_
               refine aw_region ?_
               obtain ⟨o1, h⟩ := h
               refine rq 2 (ob := (InR (v58 + (1 : Int)) ∧ Ts 1 True)) (st' := (⟨93, [e34_8, e34_1 b, sI 2 signs, sI 3 m, sI 9 n2, e34_3 c3, e34_9 c3, sI 58 (v58 + (1 : Int)), e34_14, e34_12 b, sI 95 signs, sI 96 i, sI 103 m, sI 104 ret46v.1, sI 142 sumv, e34_7], [e34_0 c0 c1 c2 c3 c4, (70201, [], .dict (.ar 2 tI) tI l702013)]⟩ : St)) (by kernel_rfl) (⟨o1, tsI 1 trivial⟩) ?_
               refine awl_nil ?_
               exact thenQ_n ⟨(n2, (v58 + (1 : Int)), l702013), rfl, h⟩
              ·refine aw_cond (b := (decide ((c3.getD (v58).toNat ((0 : Int), ([] : LI))).1 = ((b.getD ((0 : Int)).toNat (0 : Int)) - c0)))) (by kernel_rfl) (fun hb => ?_) (fun hb => ?_)
               ·have h := h.1 hb
                refine aw_region ?_
                refine rqT 6 ⟨93, [e34_8, e34_1 b, sI 2 signs, sI 3 m, e34_3 c3, e34_9 c3, sI 58 v58, sI 72 n, sp 73 70200, e34_17 c3 v58, sI 76 signs, sI 77 m, e34_14, e34_12 b, sI 95 signs, sI 96 i, sI 103 m, sI 104 ret46v.1, sI 142 sumv, e34_7], [e34_0 c0 c1 c2 c3 c4, e34_4 l702012]⟩ (by kernel_rfl) ?_
                refine awl_lcall (σ := Int × (List (LI × Int))) [70200, 70201] [70200] [.c (.ptr 70200 0), .c (.pS ((c3.getD (v58).toNat ((0 : Int), ([] : LI))).2)), .c (.pI signs), .c (.pI m)] [] (fun ret78v => .v (.c (.pI ret78v.1))) (fun ret78v => [e34_0 c0 c1 c2 c3 c4, e34_10 ret78v]) (_) [e34_0 c0 c1 c2 c3 c4, e34_4 l702012] (fun ret78v => (⟨93, [sI 78 ret78v.1, e34_8, e34_1 b, sI 2 signs, sI 3 m, e34_3 c3, e34_9 c3, sI 58 v58, sI 72 n, sp 73 70200, e34_17 c3 v58, sI 76 signs, sI 77 m, e34_14, e34_12 b, sI 95 signs, sI 96 i, sI 103 m, sI 104 ret46v.1, sI 142 sumv, e34_7], [e34_0 c0 c1 c2 c3 c4, e34_10 ret78v]⟩ : St)) rfl rfl (by kernel_rfl) rfl (by kernel_rfl) Try.call99 (by kernel_rfl) (by kernel_rfl) (by kernel_rfl) (fun _ _ => rfl) (fun _ => by kernel_rfl) (hR ((c3.getD (v58).toNat ((0 : Int), ([] : LI))).2) signs m l702012 _ h) (fun ret78v h => ?_)
                refine lpr (st' := (⟨93, [e34_8, e34_1 b, sI 2 signs, sI 3 m, e34_3 c3, e34_9 c3, sI 58 v58, sI 72 n, sI 78 ret78v.1, e34_14, e34_12 b, sI 95 signs, sI 96 i, sI 103 m, sI 104 ret46v.1, sI 142 sumv, e34_7], [e34_0 c0 c1 c2 c3 c4, e34_10 ret78v]⟩ : St)) (by kernel_rfl) ?_
                obtain ⟨o1, h⟩ := h
                refine rq 2 (ob := (InR (n + ret78v.1) ∧ Ts 1 True)) (st' := (⟨93, [e34_8, e34_1 b, sI 2 signs, sI 3 m, sI 9 (n + ret78v.1), e34_3 c3, e34_9 c3, sI 58 v58, e34_14, e34_12 b, sI 95 signs, sI 96 i, sI 103 m, sI 104 ret46v.1, sI 142 sumv, e34_7], [e34_0 c0 c1 c2 c3 c4, e34_10 ret78v]⟩ : St)) (by kernel_rfl) (⟨o1, tsI 1 trivial⟩) ?_
                refine awl_nil ?_
                exact rest11 ((n + ret78v.1), ret78v.2) h
               ·have h := h.2 hb
                refine cpr (st' := (⟨93, [e34_8, e34_1 b, sI 2 signs, sI 3 m, sI 9 n, e34_3 c3, e34_9 c3, sI 58 v58, e34_14, e34_12 b, sI 95 signs, sI 96 i, sI 103 m, sI 104 ret46v.1, sI 142 sumv, e34_7], [e34_0 c0 c1 c2 c3 c4, e34_4 l702012]⟩ : St)) (by kernel_rfl) ?_
                refine aw_skip ?_
                exact rest11 (n, l702012) h
             ·have h := h.2 hb
              refine cpr (st' := (⟨93, [e34_8, e34_1 b, sI 2 signs, sI 3 m, sI 9 n, e34_14, e34_12 b, sI 95 signs, sI 96 i, sI 103 m, sI 104 ret46v.1, sI 142 sumv, e34_7], [e34_0 c0 c1 c2 c3 c4, e34_4 l702012]⟩ : St)) (by kernel_rfl) ?_
              refine aw_exit ?_
              refine thenQ_x ?_
              refine thenQ_x ?_
              refine blockQ_hit ?_
              exact rest10 (n, l702012) h
       ·have h := h.2 hb
        refine cpr (st' := (⟨63, [e34_8, e34_15 b, sI 2 signs, sI 3 i, sI 9 sumv, sI 10 m, e34_13], [e34_0 c0 c1 c2 c3 c4, e34_5 ret46v]⟩ : St)) (by kernel_rfl) ?_
        refine aw_skip ?_
        exact rest7 (sumv, ret46v.2) h
     ·have h := h.2 hb
      refine cpr (st' := (⟨63, [sI 9 sumv, e34_13], [e34_0 c0 c1 c2 c3 c4, e34_6 l70201]⟩ : St)) (by kernel_rfl) ?_
      refine aw_exit ?_
      refine thenQ_x ?_
      refine thenQ_x ?_
      refine blockQ_hit ?_
      exact rest5 (sumv, l70201) h
def VCc99_it (c0 : Int) (c1 : Int) (c2 : Int) (c3 : LR) (c4 : LI) : Nat → LI → Int → Int → (List (LI × Int)) → (Int × (List (LI × Int)) → Prop) → Prop
  | 0 => fun _ _ _ _ _ => False
  | n + 1 => fun b signs i c5 K => VCc99 c0 c1 c2 c3 c4 (VCc99_it c0 c1 c2 c3 c4 n) b signs i c5 K
def VCcr99 (c0 : Int) (c1 : Int) (c2 : Int) (c3 : LR) (c4 : LI) (b : LI) (signs : Int) (i : Int) (c5 : (List (LI × Int))) (K : Int × (List (LI × Int)) → Prop) : Prop := ∃ n, VCc99_it c0 c1 c2 c3 c4 n b signs i c5 K
theorem linkci99 (c0 : Int) (c1 : Int) (c2 : Int) (c3 : LR) (c4 : LI) : ∀ (n : Nat) (b : LI) (signs : Int) (i : Int) (c5 : (List (LI × Int))) (K : Int × (List (LI × Int)) → Prop), VCc99_it c0 c1 c2 c3 c4 n b signs i c5 K → LCalls Try.prog 99 [70200, 70201] [70200] [e34_0 c0 c1 c2 c3 c4, e34_2 c5] [.c (.ptr 70200 0), .c (.pS b), .c (.pI signs), .c (.pI i)] (fun av hp' => ∃ y : Int × (List (LI × Int)), av = .v (.c (.pI y.1)) ∧ hp' = [e34_0 c0 c1 c2 c3 c4, (70201, [], .dict (.ar 2 tI) tI y.2)] ∧ K y)
  | 0, _, _, _, _, _, h => False.elim h
  | n + 1, b, signs, i, c5, K, h => linkc99 c0 c1 c2 c3 c4 (VCc99_it c0 c1 c2 c3 c4 n) (linkci99 c0 c1 c2 c3 c4 n) b signs i c5 K h
theorem linkcr99 (c0 : Int) (c1 : Int) (c2 : Int) (c3 : LR) (c4 : LI) (b : LI) (signs : Int) (i : Int) (c5 : (List (LI × Int))) (K : Int × (List (LI × Int)) → Prop) (h : VCcr99 c0 c1 c2 c3 c4 b signs i c5 K) : LCalls Try.prog 99 [70200, 70201] [70200] [e34_0 c0 c1 c2 c3 c4, e34_2 c5] [.c (.ptr 70200 0), .c (.pS b), .c (.pI signs), .c (.pI i)] (fun av hp' => ∃ y : Int × (List (LI × Int)), av = .v (.c (.pI y.1)) ∧ hp' = [e34_0 c0 c1 c2 c3 c4, (70201, [], .dict (.ar 2 tI) tI y.2)] ∧ K y) := by
  obtain ⟨n, h⟩ := h
  exact linkci99 c0 c1 c2 c3 c4 n b signs i c5 K h
abbrev e34a0 (g : TG) (w : LI) : Nat × Path × Con := hB 9 [.pI g.1, .pI g.2.1, .pI g.2.2.1, .p (.sl tR) g.2.2.2, .pS w, .own 7]
abbrev e34a1 (g : TG) (w : LI) : Nat × Path × Con := hB 70200 [.pI g.1, .pI g.2.1, .pI g.2.2.1, .p (.sl tR) g.2.2.2, .pS w, .own 70201]
abbrev e34a2 (g : TG) : Nat × Path × AV := s1 56 (.p (.sl tR) g.2.2.2)
abbrev e34a3 (g : TG) : Nat × Path × Con := hB 2 [.pI g.1, .pI g.2.1, .pI g.2.2.1, .p (.sl tR) g.2.2.2]
abbrev e34a4 : Nat × Path × Con := (7, [], .dict (.ar 2 tI) tI ([] : List (LI × Int)))
abbrev e34a5 (w : LI) : Nat × Path × AV := sI 3 (w.length : Int)
abbrev e34a6 (g : TG) : Nat × Path × AV := sI 1 (g.1 + g.2.2.1)
abbrev e34a7 (l7 : (List (LI × Int))) : Nat × Path × Con := (7, [], .dict (.ar 2 tI) tI l7)
abbrev e34a8 (g : TG) : Nat × Path × AV := sI 57 (g.2.2.2.length : Int)
abbrev e34a9 : Nat × Path × AV := sI 2 (0 : Int)
abbrev e34a10 (g : TG) (w : LI) : Nat × Path × AV := sI 9 ((mget ([] : List (LI × Int)) [(g.1 + g.2.2.1), (0 : Int), (w.length : Int)]).getD (0 : Int))
abbrev e34a11 (g : TG) (v58 : Int) : Nat × Path × Con := hB 12 [.pI ((g.2.2.2.getD (v58).toNat ((0 : Int), ([] : LI))).1), .pS ((g.2.2.2.getD (v58).toNat ((0 : Int), ([] : LI))).2)]
abbrev e34a12 (ret78v : Int × (List (LI × Int))) : Nat × Path × Con := (70201, [], .dict (.ar 2 tI) tI ret78v.2)
abbrev e34a13 (g : TG) (v58 : Int) : Nat × Path × AV := s1 75 (.pS ((g.2.2.2.getD (v58).toNat ((0 : Int), ([] : LI))).2))
abbrev e34a14 (l7 : (List (LI × Int))) : Nat × Path × Con := (70201, [], .dict (.ar 2 tI) tI l7)
abbrev e34an0 : List Nat := [0, 1, 2, 3, 9, 56, 57, 58]
-- coppicer/coppicerkeep.trees
def VC34_k1 (K : Int × Bool → Prop) (v8 : Int) : Prop :=
  K (v8, true)
def VC34_k3 (K : Int × Bool → Prop) (n2 : Int) : Prop :=
  VC34_k1 K n2
def VC34_k2 (K : Int × Bool → Prop) (n : Int) (l7 : (List (LI × Int))) : Prop :=
  (((decide ((1099511627776 : Int) < n)) = true → VC34_k3 K (1099511627777 : Int)) ∧ ((decide ((1099511627776 : Int) < n)) = false → VC34_k3 K n))
def VC34_k4 (v58 : Int) (X1 : Int × Int × (List (LI × Int)) → Prop) (n2 : Int) (l70201 : (List (LI × Int))) : Prop :=
  (InR (v58 + (1 : Int)) ∧ X1 (n2, (v58 + (1 : Int)), l70201))
def VC34_l1 (g : TG) (w : LI) (K : Int × Bool → Prop) (n : Int) (v58 : Int) (l7 : (List (LI × Int))) (X1 : Int × Int × (List (LI × Int)) → Prop) : Prop :=
  (((decide (v58 < (g.2.2.2.length : Int))) = true → (inIdx v58 g.2.2.2.length ∧ (InR ((g.1 + g.2.2.1) - g.1) ∧ (((decide ((g.2.2.2.getD (v58).toNat ((0 : Int), ([] : LI))).1 = ((g.1 + g.2.2.1) - g.1))) = true → VCcr99 g.1 g.2.1 g.2.2.1 g.2.2.2 w ((g.2.2.2.getD (v58).toNat ((0 : Int), ([] : LI))).2) (0 : Int) (w.length : Int) l7 (fun (ret78v : Int × (List (LI × Int))) => (InR (n + ret78v.1) ∧ VC34_k4 v58 X1 (n + ret78v.1) ret78v.2))) ∧ ((decide ((g.2.2.2.getD (v58).toNat ((0 : Int), ([] : LI))).1 = ((g.1 + g.2.2.1) - g.1))) = false → VC34_k4 v58 X1 n l7))))) ∧ ((decide (v58 < (g.2.2.2.length : Int))) = false → VC34_k2 K n l7))
def VC34 (g : TG) (w : LI) (K : Int × Bool → Prop) : Prop :=
  VC21 g w (fun (ret8v : Bool) => gcall (α := Bool) (!(!ret8v)) (VC28 g) false (fun (ret12v : Bool) => ((((!ret8v) || (!ret12v)) = true → K ((0 : Int), false)) ∧ (((!ret8v) || (!ret12v)) = false → (InR (g.1 + g.2.2.1) ∧ (((decide ((g.1 + g.2.2.1) < g.1)) = true → (InR ((0 : Int) + (1 : Int)) ∧ ((decide ((w.length : Int) = ((0 : Int) + (1 : Int)))) = true → inIdx (0 : Int) w.length) ∧ ((((decide ((w.length : Int) = ((0 : Int) + (1 : Int)))) && (decide ((w.getD ((0 : Int)).toNat (0 : Int)) = (g.1 + g.2.2.1)))) = true → VC34_k1 K (1 : Int)) ∧ (((decide ((w.length : Int) = ((0 : Int) + (1 : Int)))) && (decide ((w.getD ((0 : Int)).toNat (0 : Int)) = (g.1 + g.2.2.1)))) = false → VC34_k1 K (0 : Int))))) ∧ ((decide ((g.1 + g.2.2.1) < g.1)) = false → (((decide ((0 : Int) = (w.length : Int))) = true → VC34_k1 K (0 : Int)) ∧ ((decide ((0 : Int) = (w.length : Int))) = false → (((mget ([] : List (LI × Int)) [(g.1 + g.2.2.1), (0 : Int), (w.length : Int)]).isSome = true → VC34_k1 K ((mget ([] : List (LI × Int)) [(g.1 + g.2.2.1), (0 : Int), (w.length : Int)]).getD (0 : Int))) ∧ ((mget ([] : List (LI × Int)) [(g.1 + g.2.2.1), (0 : Int), (w.length : Int)]).isSome = false → Loop (σ := Int × Int × (List (LI × Int))) (fun s X => VC34_l1 g w K s.1 s.2.1 s.2.2 X) (((mget ([] : List (LI × Int)) [(g.1 + g.2.2.1), (0 : Int), (w.length : Int)]).getD (0 : Int)), (0 : Int), ([] : List (LI × Int))))))))))))))
set_option maxHeartbeats 4000000 in
theorem link34 (g : TG) (w : LI) (K : Int × Bool → Prop) (h : VC34 g w K) : ACalls Try.prog 34 [toV1 tG g, toV1 (.sl tI) w] (fun res => ∃ y, res = (fun y => [toV1 tI y.1, toV1 .bool y.2]) y ∧ K y) := by
 refine acalls_of_aw [tI, .bool] [.t 4, .t 5] Try.func34 rfl rfl rfl ?_
 unfold VC34 at h
 refine srn 3 ⟨26, [s1 1 (.pS w), sp 2 2], [e34a3 g]⟩ (by kernel_rfl) rfl ?_
 refine aw_seq ?_
 refine sr ?_
 refine rqT 2 ⟨26, [s1 1 (.pS w), sp 2 2, sA 6 [.pI g.1, .pI g.2.1, .pI g.2.2.1, .p (.sl tR) g.2.2.2], s1 7 (.pS w)], [e34a3 g]⟩ (by kernel_rfl) ?_
 refine lcq (d := 8) [.d tG, .d (.sl tI)] (fun ret8v => (⟨26, [s1 1 (.pS w), sp 2 2, sB 8 ret8v], [e34a3 g]⟩ : St)) (by kernel_rfl) Try.call21 (fun _ => by kernel_rfl) (link21 g w _ h) (fun ret8v h => ?_)
 refine rq 3 (ob := (Ts 2 (((!ret8v) = false → True) ∧ True))) (st' := (⟨26, [s1 1 (.pS w), sp 2 2, sB 10 (!ret8v), (11, [(10, false)], .v (.agg [.pI g.1, .pI g.2.1, .pI g.2.2.1, .p (.sl tR) g.2.2.2]))], [e34a3 g]⟩ : St)) (by kernel_rfl) (tsI 2 ⟨(fun _ => trivial), trivial⟩) ?_
 refine awl_callk (p := [(10, false)]) (l := [toV1 tG g]) (cl := []) false [.d tG] [1, 2, 10, 12] [2] (fun (ret12v : Bool) => ((((!ret8v) || (!ret12v)) = true → K ((0 : Int), false)) ∧ (((!ret8v) || (!ret12v)) = false → (InR (g.1 + g.2.2.1) ∧ (((decide ((g.1 + g.2.2.1) < g.1)) = true → (InR ((0 : Int) + (1 : Int)) ∧ ((decide ((w.length : Int) = ((0 : Int) + (1 : Int)))) = true → inIdx (0 : Int) w.length) ∧ ((((decide ((w.length : Int) = ((0 : Int) + (1 : Int)))) && (decide ((w.getD ((0 : Int)).toNat (0 : Int)) = (g.1 + g.2.2.1)))) = true → VC34_k1 K (1 : Int)) ∧ (((decide ((w.length : Int) = ((0 : Int) + (1 : Int)))) && (decide ((w.getD ((0 : Int)).toNat (0 : Int)) = (g.1 + g.2.2.1)))) = false → VC34_k1 K (0 : Int))))) ∧ ((decide ((g.1 + g.2.2.1) < g.1)) = false → (((decide ((0 : Int) = (w.length : Int))) = true → VC34_k1 K (0 : Int)) ∧ ((decide ((0 : Int) = (w.length : Int))) = false → (((mget ([] : List (LI × Int)) [(g.1 + g.2.2.1), (0 : Int), (w.length : Int)]).isSome = true → VC34_k1 K ((mget ([] : List (LI × Int)) [(g.1 + g.2.2.1), (0 : Int), (w.length : Int)]).getD (0 : Int))) ∧ ((mget ([] : List (LI × Int)) [(g.1 + g.2.2.1), (0 : Int), (w.length : Int)]).isSome = false → Loop (σ := Int × Int × (List (LI × Int))) (fun s X => VC34_l1 g w K s.1 s.2.1 s.2.2 X) (((mget ([] : List (LI × Int)) [(g.1 + g.2.2.1), (0 : Int), (w.length : Int)]).getD (0 : Int)), (0 : Int), ([] : List (LI × Int))))))))))))) (fun ret12v => [toV1 .bool ret12v]) (fun ret12v => (⟨26, [s1 1 (.pS w), sp 2 2, sB 10 (!ret8v), (12, [(10, false)], .v (.c (.pB ret12v)))], [e34a3 g]⟩ : St)) (by kernel_rfl) rfl (by kernel_rfl) rfl (by kernel_rfl) Try.call28 (by kernel_rfl) (fun ret12v => by kernel_rfl) (fun e => by cases e) (fun hg => link28 g _ (by have := gcall_T h (show (!(!ret8v)) = true from hg); exact this)) (fun hg => ⟨false, by have := gcall_F h (show (!(!ret8v)) = false from hg); exact this⟩) (fun ret12v h => ?_)
 refine rq 2 (ob := (((!ret8v) = false → True) ∧ Ts 1 True)) (st' := (⟨26, [s1 1 (.pS w), sp 2 2, sB 14 ((!ret8v) || (!ret12v))], [e34a3 g]⟩ : St)) (by kernel_rfl) (⟨(fun _ => trivial), tsI 1 trivial⟩) ?_
 refine nn ?_
 refine aw_cond (b := ((!ret8v) || (!ret12v))) (by kernel_rfl) (fun hb => ?_) (fun hb => ?_)
 ·have h := h.1 hb
  refine srn 2 ⟨26, [sI 4 (0 : Int), sB 5 false], []⟩ (by kernel_rfl) rfl ?_
  refine aw_ret ?_
  refine thenQ_r ?_
  exact retQ_r (ob := Ts 2 True) _ (by kernel_rfl) (tsI 2 trivial) h
 ·have h := h.2 hb
  refine aw_skip ?_
  refine thenQ_n ?_
  refine aw_seq ?_
  refine aw_conv [.ren 2 30000] (st' := (⟨26, [s1 1 (.pS w), sp 2 30000, sB 14 ((!ret8v) || (!ret12v))], [hB 30000 [.pI g.1, .pI g.2.1, .pI g.2.2.1, .p (.sl tR) g.2.2.2]]⟩ : St)) (by kernel_rfl) ?_
  refine awd_begin [7, 9] (by kernel_rfl) ?_
  obtain ⟨o1, h⟩ := h
  refine drq (by kernel_rfl) [0, 1, 3, 4, 5, 6, 7, 8, 9] (ob := (Ts 6 (InR (g.1 + g.2.2.1) ∧ Ts 2 True))) (done' := [9, 8, 7, 6, 5, 4, 3, 1, 0]) (st' := (⟨26, [sA 15 [.pI g.1, .pI g.2.1, .pI g.2.2.1, .p (.sl tR) g.2.2.2], s1 16 (.pS w), sI 22 (g.1 + g.2.2.1), sI 24 (w.length : Int)], []⟩ : St)) (by kernel_rfl) (tsI 6 ⟨o1, tsI 2 trivial⟩) ?_
  refine awd_one (i := 2) (by kernel_rfl) ?_
  refine adop_inlr [.t 4] [.agg [.pI g.1, .pI g.2.1, .pI g.2.2.1, .p (.sl tR) g.2.2.2], .c (.pS w)] [] rfl rfl rfl (by kernel_rfl) rfl (by kernel_rfl) Try.call68 (by kernel_rfl) (by kernel_rfl) Try.func68 rfl rfl (by kernel_rfl) ?_
  refine aw_conv [] (st' := (⟨10, [sA 0 [.pI g.1, .pI g.2.1, .pI g.2.2.1, .p (.sl tR) g.2.2.2], s1 1 (.pS w), sA 25 [.pI g.1, .pI g.2.1, .pI g.2.2.1, .p (.sl tR) g.2.2.2], s1 26 (.pS w), sI 32 (g.1 + g.2.2.1), sI 34 (w.length : Int)], []⟩ : St)) (by kernel_rfl) ?_
  refine sr ?_
  refine rqT 2 ⟨10, [s1 1 (.pS w), sp 2 2, sI 32 (g.1 + g.2.2.1), sI 34 (w.length : Int)], [e34a3 g]⟩ (by kernel_rfl) ?_
  refine nsr ?_
  refine rqT 6 ⟨10, [sp 4 9, sI 32 (g.1 + g.2.2.1), sI 34 (w.length : Int)], [e34a4, e34a0 g w]⟩ (by kernel_rfl) ?_
  refine nn ?_
  refine aw_ret ?_
  refine inlR_r (ob := True) (.v (.c (.ptr 9 0))) (by kernel_rfl) trivial rfl ?_
  refine dpr (st' := (⟨26, [sp 17 9, sI 22 (g.1 + g.2.2.1), sI 24 (w.length : Int)], [e34a4, e34a0 g w]⟩ : St)) (by kernel_rfl) ?_
  refine awd_one (i := 10) (by kernel_rfl) ?_
  refine adop_inlr [.t 8] [.c (.ptr 9 0), .c (.pI (g.1 + g.2.2.1)), .c (.pI (0 : Int)), .c (.pI (w.length : Int))] [] rfl rfl rfl (by kernel_rfl) rfl (by kernel_rfl) Try.call69 (by kernel_rfl) (by kernel_rfl) Try.func69 rfl rfl (by kernel_rfl) ?_
  refine aw_conv [] (st' := (⟨93, [sp 0 9, e34a6 g, e34a9, e34a5 w, sp 110 9, sI 115 (g.1 + g.2.2.1), sI 117 (w.length : Int)], [e34a4, e34a0 g w]⟩ : St)) (by kernel_rfl) ?_
  refine withJoinR (σ := Int) (fun s => (⟨93, [sI 8 s], []⟩ : St)) (fun s => VC34_k1 K s) (fun v8 h => ?_) (fun rest1 => ?_)
  ·have h : VC34_k1 K v8 := h
   unfold VC34_k1 at h
   refine inlR_n (ob := True) (.v (.c (.pI v8))) (by kernel_rfl) trivial rfl ?_
   refine dpr (st' := (⟨26, [sI 25 v8], []⟩ : St)) (by kernel_rfl) ?_
   refine drq (by kernel_rfl) [11, 12] (ob := (Ts 2 True)) (done' := [12, 11, 10, 2, 9, 8, 7, 6, 5, 4, 3, 1, 0]) (st' := (⟨26, [sI 4 v8, sB 5 true], []⟩ : St)) (by kernel_rfl) (tsI 2 trivial) ?_
   refine awd_done (by kernel_rfl) ?_
   refine thenQ_n ?_
   refine aw_ret ?_
   exact retQ_r (ob := Ts 2 True) _ (by kernel_rfl) (tsI 2 trivial) h
  ·refine srn 1 ⟨93, [sp 0 9, e34a6 g, e34a9, e34a5 w], [e34a4, e34a0 g w]⟩ (by kernel_rfl) rfl ?_
   refine aw_seq ?_
   refine srn 7 ⟨93, [sp 0 9, e34a6 g, e34a9, e34a5 w, sB 19 (decide ((g.1 + g.2.2.1) < g.1))], [e34a4, e34a0 g w]⟩ (by kernel_rfl) rfl ?_
   refine aw_cond (b := (decide ((g.1 + g.2.2.1) < g.1))) (by kernel_rfl) (fun hb => ?_) (fun hb => ?_)
   ·have h := h.1 hb
    refine aw_seq ?_
    refine sr ?_
    obtain ⟨o1, o2, h⟩ := h
    refine rq 15 (ob := (Ts 2 (InR ((0 : Int) + (1 : Int)) ∧ Ts 2 (Ti 5 ((decide ((w.length : Int) = ((0 : Int) + (1 : Int)))) = true → True) (((decide ((w.length : Int) = ((0 : Int) + (1 : Int)))) = true → inIdx (0 : Int) w.length) ∧ Ti 3 ((decide ((w.length : Int) = ((0 : Int) + (1 : Int)))) = true → True) (Ts 1 True)))))) (st' := (⟨93, [sB 34 ((decide ((w.length : Int) = ((0 : Int) + (1 : Int)))) && (decide ((w.getD ((0 : Int)).toNat (0 : Int)) = (g.1 + g.2.2.1))))], []⟩ : St)) (by kernel_rfl) (tsI 2 (⟨o1, tsI 2 (tiI 5 (fun _ => trivial) ⟨o2, tiI 3 (fun _ => trivial) (tsI 1 trivial)⟩)⟩)) ?_
    refine nn ?_
    refine aw_cond (b := ((decide ((w.length : Int) = ((0 : Int) + (1 : Int)))) && (decide ((w.getD ((0 : Int)).toNat (0 : Int)) = (g.1 + g.2.2.1))))) (by kernel_rfl) (fun hb => ?_) (fun hb => ?_)
    ·have h := h.1 hb
     refine srn 1 ⟨93, [sI 8 (1 : Int)], []⟩ (by kernel_rfl) rfl ?_
     refine aw_ret ?_
     refine thenQ_r ?_
     refine thenQ_r ?_
     exact rest1 (1 : Int) h
    ·have h := h.2 hb
     refine aw_skip ?_
     refine thenQ_n ?_
     refine srn 1 ⟨93, [sI 8 (0 : Int)], []⟩ (by kernel_rfl) rfl ?_
     refine aw_ret ?_
     refine thenQ_r ?_
     exact rest1 (0 : Int) h
   ·have h := h.2 hb
    refine aw_skip ?_
    refine thenQ_n ?_
    refine aw_seq ?_
    refine srn 3 ⟨93, [sp 0 9, e34a6 g, e34a9, e34a5 w, sB 37 (decide ((0 : Int) = (w.length : Int)))], [e34a4, e34a0 g w]⟩ (by kernel_rfl) rfl ?_
    refine aw_cond (b := (decide ((0 : Int) = (w.length : Int)))) (by kernel_rfl) (fun hb => ?_) (fun hb => ?_)
    ·have h := h.1 hb
     refine srn 1 ⟨93, [sI 8 (0 : Int)], []⟩ (by kernel_rfl) rfl ?_
     refine aw_ret ?_
     refine thenQ_r ?_
     exact rest1 (0 : Int) h
    ·have h := h.2 hb
     refine aw_skip ?_
     refine thenQ_n ?_
     refine srn 14 ⟨93, [sp 0 9, e34a6 g, e34a9, e34a5 w, e34a10 g w, sB 10 ((mget ([] : List (LI × Int)) [(g.1 + g.2.2.1), (0 : Int), (w.length : Int)]).isSome)], [e34a4, e34a0 g w]⟩ (by kernel_rfl) rfl ?_
     refine aw_seq ?_
     refine srn 1 ⟨93, [sp 0 9, e34a6 g, e34a9, e34a5 w, e34a10 g w, sB 50 ((mget ([] : List (LI × Int)) [(g.1 + g.2.2.1), (0 : Int), (w.length : Int)]).isSome)], [e34a4, e34a0 g w]⟩ (by kernel_rfl) rfl ?_
     refine aw_cond (b := (mget ([] : List (LI × Int)) [(g.1 + g.2.2.1), (0 : Int), (w.length : Int)]).isSome) (by kernel_rfl) (fun hb => ?_) (fun hb => ?_)
     ·have h := h.1 hb
      refine srn 2 ⟨93, [sI 8 ((mget ([] : List (LI × Int)) [(g.1 + g.2.2.1), (0 : Int), (w.length : Int)]).getD (0 : Int))], []⟩ (by kernel_rfl) rfl ?_
      refine aw_ret ?_
      refine thenQ_r ?_
      exact rest1 ((mget ([] : List (LI × Int)) [(g.1 + g.2.2.1), (0 : Int), (w.length : Int)]).getD (0 : Int)) h
     ·have h := h.2 hb
      refine aw_skip ?_
      refine thenQ_n ?_
      refine aw_seq ?_
      refine srn 7 ⟨93, [sp 0 9, e34a6 g, e34a9, e34a5 w, e34a10 g w, e34a2 g, e34a8 g, sI 58 (0 : Int)], [e34a4, e34a0 g w]⟩ (by kernel_rfl) rfl ?_
      refine withJoin (σ := Int × (List (LI × Int))) (fun s => (⟨93, [sp 0 9, e34a6 g, e34a9, e34a5 w, sI 9 s.1], [(7, [], .dict (.ar 2 tI) tI s.2), e34a0 g w]⟩ : St)) (fun s => VC34_k2 K s.1 s.2) (fun s h => ?_) (fun rest3 => ?_)
      ·obtain ⟨n, l7⟩ := s
       have h : VC34_k2 K n l7 := h
       unfold VC34_k2 at h
       refine thenQ_n ?_
       refine aw_seq ?_
       refine srn 2 ⟨93, [sp 0 9, e34a6 g, e34a9, e34a5 w, sI 9 n, sB 82 (decide ((1099511627776 : Int) < n))], [e34a7 l7, e34a0 g w]⟩ (by kernel_rfl) rfl ?_
       refine withJoin (σ := Int) (fun s => (⟨93, [sp 0 9, e34a6 g, e34a9, e34a5 w, sI 9 s], [e34a7 l7, e34a0 g w]⟩ : St)) (fun s => VC34_k3 K s) (fun n2 h => ?_) (fun rest2 => ?_)
       ·have h : VC34_k3 K n2 := h
        unfold VC34_k3 at h
        refine thenQ_n ?_
        refine sr ?_
        refine rqT 10 ⟨93, [sI 9 n2], []⟩ (by kernel_rfl) ?_
        refine nsr ?_
        refine rqT 2 ⟨93, [sI 8 n2], []⟩ (by kernel_rfl) ?_
        refine nn ?_
        refine aw_ret ?_
        exact rest1 n2 h
       ·refine aw_cond (b := (decide ((1099511627776 : Int) < n))) (by kernel_rfl) (fun hb => ?_) (fun hb => ?_)
        ·have h := h.1 hb
         refine aw_region ?_
         refine rqT 1 ⟨93, [sp 0 9, e34a6 g, e34a9, e34a5 w, sI 9 (1099511627777 : Int)], [e34a7 l7, e34a0 g w]⟩ (by kernel_rfl) ?_
         refine awl_nil ?_
         exact rest2 (1099511627777 : Int) h
        ·have h := h.2 hb
         refine cpr (st' := (⟨93, [sp 0 9, e34a6 g, e34a9, e34a5 w, sI 9 n], [e34a7 l7, e34a0 g w]⟩ : St)) (by kernel_rfl) ?_
         refine aw_skip ?_
         exact rest2 n h
      ·refine aw_block ?_
       refine aw_loop (σ := Int × Int × (List (LI × Int))) (fun s => (⟨93, [sp 0 9, e34a6 g, e34a9, e34a5 w, sI 9 s.1, e34a2 g, e34a8 g, sI 58 s.2.1], [(7, [], .dict (.ar 2 tI) tI s.2.2), e34a0 g w]⟩ : St)) (fun s X => VC34_l1 g w K s.1 s.2.1 s.2.2 X) (s0 := (((mget ([] : List (LI × Int)) [(g.1 + g.2.2.1), (0 : Int), (w.length : Int)]).getD (0 : Int)), (0 : Int), ([] : List (LI × Int)))) (fun s X1 h => ?_) h
       obtain ⟨n, v58, l7⟩ := s
       have h : VC34_l1 g w K n v58 l7 X1 := h
       unfold VC34_l1 at h
       refine srn 1 ⟨93, [sp 0 9, e34a6 g, e34a9, e34a5 w, sI 9 n, e34a2 g, e34a8 g, sI 58 v58, sB 59 (decide (v58 < (g.2.2.2.length : Int)))], [e34a7 l7, e34a0 g w]⟩ (by kernel_rfl) rfl ?_
       refine aw_seq ?_
       refine aw_cond (b := (decide (v58 < (g.2.2.2.length : Int)))) (by kernel_rfl) (fun hb => ?_) (fun hb => ?_)
       ·have h := h.1 hb
        refine aw_skip ?_
        refine thenQ_n ?_
        refine aw_seq ?_
        refine aw_block ?_
        refine sr ?_
        obtain ⟨o1, h⟩ := h
        refine rq 4 (ob := (inIdx v58 g.2.2.2.length ∧ Ts 3 True)) (st' := (⟨93, [sp 0 9, e34a6 g, e34a9, e34a5 w, sI 9 n, sp 12 12, e34a2 g, e34a8 g, sI 58 v58], [e34a7 l7, e34a0 g w, e34a11 g v58]⟩ : St)) (by kernel_rfl) (⟨o1, tsI 3 trivial⟩) ?_
        refine nn ?_
        refine aw_seq ?_
        refine awd_begin [] (by kernel_rfl) ?_
        obtain ⟨o1, h⟩ := h
        refine drq (by kernel_rfl) [0, 1, 2, 3, 4, 5, 6, 7, 8, 9] (ob := (Ts 8 (InR ((g.1 + g.2.2.1) - g.1) ∧ Ts 1 True))) (done' := [9, 8, 7, 6, 5, 4, 3, 2, 1, 0]) (st' := (⟨93, [sp 0 9, e34a6 g, e34a9, e34a5 w, sI 9 n, sp 12 12, e34a2 g, e34a8 g, sI 58 v58, sB 71 (decide ((g.2.2.2.getD (v58).toNat ((0 : Int), ([] : LI))).1 = ((g.1 + g.2.2.1) - g.1)))], [e34a7 l7, e34a0 g w, e34a11 g v58]⟩ : St)) (by kernel_rfl) (tsI 8 ⟨o1, tsI 1 trivial⟩) ?_
        refine awd_done (by kernel_rfl) ?_
        refine thenQ_n ?_
        refine withJoin (σ := Int × (List (LI × Int))) (fun s => (⟨93, [sp 0 70200, e34a6 g, e34a9, e34a5 w, sI 9 s.1, e34a2 g, e34a8 g, sI 58 v58], [e34a1 g w, (70201, [], .dict (.ar 2 tI) tI s.2)]⟩ : St)) (fun s => VC34_k4 v58 X1 s.1 s.2) (fun s h => ?_) (fun rest4 => ?_)
        ·obtain ⟨n2, l70201⟩ := s
         have h : VC34_k4 v58 X1 n2 l70201 := h
         unfold VC34_k4 at h
         refine blockQ_n ?_
         refine thenQ_n ?_
         refine aw_region ?_
         obtain ⟨o1, h⟩ := h
         refine rq 2 (ob := (InR (v58 + (1 : Int)) ∧ Ts 1 True)) (st' := (⟨93, [sp 0 70200, e34a6 g, e34a9, e34a5 w, sI 9 n2, e34a2 g, e34a8 g, sI 58 (v58 + (1 : Int))], [e34a1 g w, (70201, [], .dict (.ar 2 tI) tI l70201)]⟩ : St)) (by kernel_rfl) (⟨o1, tsI 1 trivial⟩) ?_
         refine awl_conv [.ren 70200 90200, .ren 70201 90201, .ren 90200 9, .ren 90201 7, .prune e34an0 [7, 9]] (st' := (⟨93, [sp 0 9, e34a6 g, e34a9, e34a5 w, sI 9 n2, e34a2 g, e34a8 g, sI 58 (v58 + (1 : Int))], [(7, [], .dict (.ar 2 tI) tI l70201), e34a0 g w]⟩ : St)) (by kernel_rfl) ?_
         refine awl_nil ?_
         exact thenQ_n ⟨(n2, (v58 + (1 : Int)), l70201), rfl, h⟩
        ·refine aw_cond (b := (decide ((g.2.2.2.getD (v58).toNat ((0 : Int), ([] : LI))).1 = ((g.1 + g.2.2.1) - g.1)))) (by kernel_rfl) (fun hb => ?_) (fun hb => ?_)
         ·have h := h.1 hb
          refine aw_region ?_
          refine rqT 6 ⟨93, [sp 0 9, e34a6 g, e34a9, e34a5 w, e34a2 g, e34a8 g, sI 58 v58, sI 72 n, sp 73 9, e34a13 g v58, sI 76 (0 : Int), sI 77 (w.length : Int)], [e34a7 l7, e34a0 g w]⟩ (by kernel_rfl) ?_
          refine awl_conv [.ren 9 70200, .ren 7 70201] (st' := (⟨93, [sp 0 70200, e34a6 g, e34a9, e34a5 w, e34a2 g, e34a8 g, sI 58 v58, sI 72 n, sp 73 70200, e34a13 g v58, sI 76 (0 : Int), sI 77 (w.length : Int)], [e34a14 l7, e34a1 g w]⟩ : St)) (by kernel_rfl) ?_
          refine awl_lcall (σ := Int × (List (LI × Int))) [70200, 70201] [70200] [.c (.ptr 70200 0), .c (.pS ((g.2.2.2.getD (v58).toNat ((0 : Int), ([] : LI))).2)), .c (.pI (0 : Int)), .c (.pI (w.length : Int))] [] (fun ret78v => .v (.c (.pI ret78v.1))) (fun ret78v => [e34a1 g w, e34a12 ret78v]) (_) [e34a1 g w, e34a14 l7] (fun ret78v => (⟨93, [sI 78 ret78v.1, sp 0 70200, e34a6 g, e34a9, e34a5 w, e34a2 g, e34a8 g, sI 58 v58, sI 72 n, sp 73 70200, e34a13 g v58, sI 76 (0 : Int), sI 77 (w.length : Int)], [e34a1 g w, e34a12 ret78v]⟩ : St)) rfl rfl (by kernel_rfl) rfl (by kernel_rfl) Try.call99 (by kernel_rfl) (by kernel_rfl) (by kernel_rfl) (fun _ _ => rfl) (fun _ => by kernel_rfl) (linkcr99 g.1 g.2.1 g.2.2.1 g.2.2.2 w ((g.2.2.2.getD (v58).toNat ((0 : Int), ([] : LI))).2) (0 : Int) (w.length : Int) l7 _ h) (fun ret78v h => ?_)
          refine lpr (st' := (⟨93, [sp 0 70200, e34a6 g, e34a9, e34a5 w, e34a2 g, e34a8 g, sI 58 v58, sI 72 n, sI 78 ret78v.1], [e34a1 g w, e34a12 ret78v]⟩ : St)) (by kernel_rfl) ?_
          obtain ⟨o1, h⟩ := h
          refine rq 2 (ob := (InR (n + ret78v.1) ∧ Ts 1 True)) (st' := (⟨93, [sp 0 70200, e34a6 g, e34a9, e34a5 w, sI 9 (n + ret78v.1), e34a2 g, e34a8 g, sI 58 v58], [e34a1 g w, e34a12 ret78v]⟩ : St)) (by kernel_rfl) (⟨o1, tsI 1 trivial⟩) ?_
          refine awl_nil ?_
          exact rest4 ((n + ret78v.1), ret78v.2) h
         ·have h := h.2 hb
          refine aw_conv [.prune e34an0 [7, 9], .ren 9 20009, .ren 7 20007, .ren 20009 70200, .ren 20007 70201, .prune e34an0 [70200, 70201]] (st' := (⟨93, [sp 0 70200, e34a6 g, e34a9, e34a5 w, sI 9 n, e34a2 g, e34a8 g, sI 58 v58], [e34a1 g w, e34a14 l7]⟩ : St)) (by kernel_rfl) ?_
          refine aw_skip ?_
          exact rest4 (n, l7) h
       ·have h := h.2 hb
        refine cpr (st' := (⟨93, [sp 0 9, e34a6 g, e34a9, e34a5 w, sI 9 n], [e34a7 l7, e34a0 g w]⟩ : St)) (by kernel_rfl) ?_
        refine aw_exit ?_
        refine thenQ_x ?_
        refine thenQ_x ?_
        refine blockQ_hit ?_
        exact rest3 (n, l7) h
abbrev e61_0 (g : TG) : Nat × Path × Con := hB 3 [.pI g.1, .pI g.2.1, .pI g.2.2.1, .p (.sl tR) g.2.2.2]
abbrev e61_1 (g : TG) (steps : LI) : Nat × Path × AV := sI 70 (((g.2.2.2.getD ((steps.getD ((0 : Int)).toNat (0 : Int))).toNat ((0 : Int), ([] : LI))).2).length : Int)
abbrev e61_2 (g : TG) (steps : LI) : Nat × Path × AV := s1 69 (.pS ((g.2.2.2.getD ((steps.getD ((0 : Int)).toNat (0 : Int))).toNat ((0 : Int), ([] : LI))).2))
abbrev e61_3 (steps : LI) : Nat × Path × Con := hB 9 [.pI (steps.getD ((0 : Int)).toNat (0 : Int)), .own 6181, .own 6182]
abbrev e61_4 : Nat × Path × Con := hB 6 [.pI (0 : Int), .nils, .nils]
abbrev e61_5 (l6181 : (List Tree)) (ret79v : Tree × LI × Bool) : Nat × Path × Con := hA 90 102 .tr (l6181 ++ [(Tree.node ret79v.1.rule ret79v.1.kids ret79v.1.word)])
abbrev e61_6 (l6182 : LI) : Nat × Path × Con := hA 6182 3 tI l6182
abbrev e61_7 (ret79v : Tree × LI × Bool) : Nat × Path × Con := hB 12 [.pI ret79v.1.rule, .p (.sl .tr) ret79v.1.kids, .pS ret79v.1.word]
abbrev e61_8 (steps : LI) : Nat × Path × Con := hB 9 [.pI (steps.getD ((0 : Int)).toNat (0 : Int)), .own 90, .own 96]
abbrev e61_9 (steps : LI) : Nat × Path × Con := hB 9 [.pI (steps.getD ((0 : Int)).toNat (0 : Int)), .nils, .nils]
-- coppicer/pick.grow
def VC61_k1 (steps : LI) (K : Tree × LI × Bool → Prop) (steps2 : LI) (l6181 : (List Tree)) (l6182 : LI) : Prop :=
  K ((Tree.node (steps.getD ((0 : Int)).toNat (0 : Int)) l6181 l6182), steps2, true)
def VC61_l1 (R : TG → Int → LI → (Tree × LI × Bool → Prop) → Prop) (g : TG) (steps : LI) (K : Tree × LI × Bool → Prop) (steps2 : LI) (v71 : Int) (l6181 : (List Tree)) (l6182 : LI) (X1 : LI × Int × (List Tree) × LI → Prop) : Prop :=
  (((decide (v71 < (((g.2.2.2.getD ((steps.getD ((0 : Int)).toNat (0 : Int))).toNat ((0 : Int), ([] : LI))).2).length : Int))) = true → (inIdx v71 ((g.2.2.2.getD ((steps.getD ((0 : Int)).toNat (0 : Int))).toNat ((0 : Int), ([] : LI))).2).length ∧ R g (((g.2.2.2.getD ((steps.getD ((0 : Int)).toNat (0 : Int))).toNat ((0 : Int), ([] : LI))).2).getD (v71).toNat (0 : Int)) steps2 (fun (ret79v : Tree × LI × Bool) => (((!ret79v.2.2) = true → K ((Tree.node (0 : Int) ([] : (List Tree)) ([] : LI)), ([] : LI), false)) ∧ ((!ret79v.2.2) = false → (roomN (l6181.length + [(Tree.node ret79v.1.rule ret79v.1.kids ret79v.1.word)].length) ∧ (roomN (l6182.length + ret79v.1.word.length) ∧ (InR (v71 + (1 : Int)) ∧ X1 (ret79v.2.1, (v71 + (1 : Int)), (l6181 ++ [(Tree.node ret79v.1.rule ret79v.1.kids ret79v.1.word)]), (l6182 ++ ret79v.1.word)))))))))) ∧ ((decide (v71 < (((g.2.2.2.getD ((steps.getD ((0 : Int)).toNat (0 : Int))).toNat ((0 : Int), ([] : LI))).2).length : Int))) = false → VC61_k1 steps K steps2 l6181 l6182))
def VC61 (R : TG → Int → LI → (Tree × LI × Bool → Prop) → Prop) (g : TG) (sign : Int) (steps : LI) (K : Tree × LI × Bool → Prop) : Prop :=
  (((decide (sign < g.1)) = true → K ((Tree.node (-1 : Int) ([] : (List Tree)) [sign]), steps, true)) ∧ ((decide (sign < g.1)) = false → (((decide ((steps.length : Int) = (0 : Int))) = false → inIdx (0 : Int) steps.length) ∧ (((decide ((steps.length : Int) = (0 : Int))) || (decide ((steps.getD ((0 : Int)).toNat (0 : Int)) < (0 : Int)))) = false → inIdx (0 : Int) steps.length) ∧ ((((decide ((steps.length : Int) = (0 : Int))) || (decide ((steps.getD ((0 : Int)).toNat (0 : Int)) < (0 : Int)))) || (decide ((g.2.2.2.length : Int) ≤ (steps.getD ((0 : Int)).toNat (0 : Int))))) = false → inIdx (0 : Int) steps.length) ∧ ((((decide ((steps.length : Int) = (0 : Int))) || (decide ((steps.getD ((0 : Int)).toNat (0 : Int)) < (0 : Int)))) || (decide ((g.2.2.2.length : Int) ≤ (steps.getD ((0 : Int)).toNat (0 : Int))))) = false → inIdx (steps.getD ((0 : Int)).toNat (0 : Int)) g.2.2.2.length) ∧ ((((decide ((steps.length : Int) = (0 : Int))) || (decide ((steps.getD ((0 : Int)).toNat (0 : Int)) < (0 : Int)))) || (decide ((g.2.2.2.length : Int) ≤ (steps.getD ((0 : Int)).toNat (0 : Int))))) = false → InR (sign - g.1)) ∧ ((((((decide ((steps.length : Int) = (0 : Int))) || (decide ((steps.getD ((0 : Int)).toNat (0 : Int)) < (0 : Int)))) || (decide ((g.2.2.2.length : Int) ≤ (steps.getD ((0 : Int)).toNat (0 : Int))))) || (!decide ((g.2.2.2.getD ((steps.getD ((0 : Int)).toNat (0 : Int))).toNat ((0 : Int), ([] : LI))).1 = (sign - g.1)))) = true → K ((Tree.node (0 : Int) ([] : (List Tree)) ([] : LI)), ([] : LI), false)) ∧ (((((decide ((steps.length : Int) = (0 : Int))) || (decide ((steps.getD ((0 : Int)).toNat (0 : Int)) < (0 : Int)))) || (decide ((g.2.2.2.length : Int) ≤ (steps.getD ((0 : Int)).toNat (0 : Int))))) || (!decide ((g.2.2.2.getD ((steps.getD ((0 : Int)).toNat (0 : Int))).toNat ((0 : Int), ([] : LI))).1 = (sign - g.1)))) = false → (inIdx (0 : Int) steps.length ∧ ((0 ≤ (1 : Int) ∧ (1 : Int) ≤ (steps.length : Int)) ∧ (inIdx (steps.getD ((0 : Int)).toNat (0 : Int)) g.2.2.2.length ∧ Loop (σ := LI × Int × (List Tree) × LI) (fun s X => VC61_l1 R g steps K s.1 s.2.1 s.2.2.1 s.2.2.2 X) ((steps.drop ((1 : Int)).toNat), (0 : Int), ([] : List Tree), ([] : List Int))))))))))
set_option maxHeartbeats 4000000 in
theorem link61 (R : TG → Int → LI → (Tree × LI × Bool → Prop) → Prop) (hR : ∀ (x0 : TG) (x1 : Int) (x2 : LI) (K : Tree × LI × Bool → Prop), R x0 x1 x2 K → ACalls Try.prog 61 [toV1 tG x0, toV1 tI x1, toV1 (.sl tI) x2] (fun res => ∃ y, res = (fun y => [toV1 .tr y.1, toV1 (.sl tI) y.2.1, toV1 .bool y.2.2]) y ∧ K y)) (g : TG) (sign : Int) (steps : LI) (K : Tree × LI × Bool → Prop) (h : VC61 R g sign steps K) : ACalls Try.prog 61 [toV1 tG g, toV1 tI sign, toV1 (.sl tI) steps] (fun res => ∃ y, res = (fun y => [toV1 .tr y.1, toV1 (.sl tI) y.2.1, toV1 .bool y.2.2]) y ∧ K y) := by
 refine acalls_of_aw [.tr, (.sl tI), .bool] [.c 6 102, .t 7, .t 8] Try.func61 rfl rfl rfl ?_
 unfold VC61 at h
 refine srn 4 ⟨102, [sI 1 sign, s1 2 (.pS steps), sp 3 3, sp 6 6], [e61_0 g, e61_4]⟩ (by kernel_rfl) rfl ?_
 refine aw_seq ?_
 refine srn 4 ⟨102, [sI 1 sign, s1 2 (.pS steps), sp 3 3, sp 6 6, sB 18 (decide (sign < g.1))], [e61_0 g, e61_4]⟩ (by kernel_rfl) rfl ?_
 refine aw_cond (b := (decide (sign < g.1))) (by kernel_rfl) (fun hb => ?_) (fun hb => ?_)
 ·have h := h.1 hb
  refine srn 7 ⟨102, [sp 6 6, s1 7 (.pS steps), sB 8 true], [hB 6 [.pI (-1 : Int), .nils, .own 20], hA 20 3 tI [sign]]⟩ (by kernel_rfl) rfl ?_
  refine aw_conv [.freeze 20] (st' := (⟨102, [sp 6 6, s1 7 (.pS steps), sB 8 true], [hB 6 [.pI (-1 : Int), .nils, .pS [sign]]]⟩ : St)) (by kernel_rfl) ?_
  refine aw_ret ?_
  refine thenQ_r ?_
  exact retQ_r (ob := Ts 3 True) _ (by kernel_rfl) (tsI 3 trivial) h
 ·have h := h.2 hb
  refine aw_skip ?_
  refine thenQ_n ?_
  refine aw_seq ?_
  refine aw_seq ?_
  refine awd_begin [] (by kernel_rfl) ?_
  obtain ⟨o1, o2, o3, o4, o5, h⟩ := h
  refine drq (by kernel_rfl) [0, 1, 2, 3, 4, 5, 6, 7, 8, 9, 10, 11, 12, 13, 14, 15, 16, 17, 18, 19, 20, 21, 22, 23, 24, 25, 26, 27, 28, 29, 30, 31, 32] (ob := (Ts 4 (((decide ((steps.length : Int) = (0 : Int))) = false → True) ∧ ((decide ((steps.length : Int) = (0 : Int))) = false → inIdx (0 : Int) steps.length) ∧ Ti 2 ((decide ((steps.length : Int) = (0 : Int))) = false → True) (Ts 2 ((((decide ((steps.length : Int) = (0 : Int))) || (decide ((steps.getD ((0 : Int)).toNat (0 : Int)) < (0 : Int)))) = false → True) ∧ (((decide ((steps.length : Int) = (0 : Int))) || (decide ((steps.getD ((0 : Int)).toNat (0 : Int)) < (0 : Int)))) = false → inIdx (0 : Int) steps.length) ∧ Ti 5 (((decide ((steps.length : Int) = (0 : Int))) || (decide ((steps.getD ((0 : Int)).toNat (0 : Int)) < (0 : Int)))) = false → True) (Ts 2 (Ti 3 ((((decide ((steps.length : Int) = (0 : Int))) || (decide ((steps.getD ((0 : Int)).toNat (0 : Int)) < (0 : Int)))) || (decide ((g.2.2.2.length : Int) ≤ (steps.getD ((0 : Int)).toNat (0 : Int))))) = false → True) (((((decide ((steps.length : Int) = (0 : Int))) || (decide ((steps.getD ((0 : Int)).toNat (0 : Int)) < (0 : Int)))) || (decide ((g.2.2.2.length : Int) ≤ (steps.getD ((0 : Int)).toNat (0 : Int))))) = false → inIdx (0 : Int) steps.length) ∧ ((((decide ((steps.length : Int) = (0 : Int))) || (decide ((steps.getD ((0 : Int)).toNat (0 : Int)) < (0 : Int)))) || (decide ((g.2.2.2.length : Int) ≤ (steps.getD ((0 : Int)).toNat (0 : Int))))) = false → True) ∧ ((((decide ((steps.length : Int) = (0 : Int))) || (decide ((steps.getD ((0 : Int)).toNat (0 : Int)) < (0 : Int)))) || (decide ((g.2.2.2.length : Int) ≤ (steps.getD ((0 : Int)).toNat (0 : Int))))) = false → inIdx (steps.getD ((0 : Int)).toNat (0 : Int)) g.2.2.2.length) ∧ Ti 5 ((((decide ((steps.length : Int) = (0 : Int))) || (decide ((steps.getD ((0 : Int)).toNat (0 : Int)) < (0 : Int)))) || (decide ((g.2.2.2.length : Int) ≤ (steps.getD ((0 : Int)).toNat (0 : Int))))) = false → True) (((((decide ((steps.length : Int) = (0 : Int))) || (decide ((steps.getD ((0 : Int)).toNat (0 : Int)) < (0 : Int)))) || (decide ((g.2.2.2.length : Int) ≤ (steps.getD ((0 : Int)).toNat (0 : Int))))) = false → InR (sign - g.1)) ∧ ((((decide ((steps.length : Int) = (0 : Int))) || (decide ((steps.getD ((0 : Int)).toNat (0 : Int)) < (0 : Int)))) || (decide ((g.2.2.2.length : Int) ≤ (steps.getD ((0 : Int)).toNat (0 : Int))))) = false → True) ∧ Ts 1 True))))))))) (done' := [32, 31, 30, 29, 28, 27, 26, 25, 24, 23, 22, 21, 20, 19, 18, 17, 16, 15, 14, 13, 12, 11, 10, 9, 8, 7, 6, 5, 4, 3, 2, 1, 0]) (st' := (⟨102, [s1 2 (.pS steps), sp 3 3, sp 6 6, sB 55 ((((decide ((steps.length : Int) = (0 : Int))) || (decide ((steps.getD ((0 : Int)).toNat (0 : Int)) < (0 : Int)))) || (decide ((g.2.2.2.length : Int) ≤ (steps.getD ((0 : Int)).toNat (0 : Int))))) || (!decide ((g.2.2.2.getD ((steps.getD ((0 : Int)).toNat (0 : Int))).toNat ((0 : Int), ([] : LI))).1 = (sign - g.1))))], [e61_0 g, e61_4]⟩ : St)) (by kernel_rfl) (tsI 4 (⟨(fun _ => trivial), ⟨o1, tiI 2 (fun _ => trivial) (tsI 2 (⟨(fun _ => trivial), ⟨o2, tiI 5 (fun _ => trivial) (tsI 2 (tiI 3 (fun _ => trivial) (⟨o3, ⟨(fun _ => trivial), ⟨o4, tiI 5 (fun _ => trivial) (⟨o5, ⟨(fun _ => trivial), tsI 1 trivial⟩⟩)⟩⟩⟩)))⟩⟩))⟩⟩)) ?_
  refine awd_done (by kernel_rfl) ?_
  refine thenQ_n ?_
  refine aw_cond (b := ((((decide ((steps.length : Int) = (0 : Int))) || (decide ((steps.getD ((0 : Int)).toNat (0 : Int)) < (0 : Int)))) || (decide ((g.2.2.2.length : Int) ≤ (steps.getD ((0 : Int)).toNat (0 : Int))))) || (!decide ((g.2.2.2.getD ((steps.getD ((0 : Int)).toNat (0 : Int))).toNat ((0 : Int), ([] : LI))).1 = (sign - g.1))))) (by kernel_rfl) (fun hb => ?_) (fun hb => ?_)
  ·have h := h.1 hb
   refine srn 4 ⟨102, [sp 6 6, s1 7 (.nils), sB 8 false], [e61_4]⟩ (by kernel_rfl) rfl ?_
   refine aw_ret ?_
   refine thenQ_r ?_
   exact retQ_r (ob := Ts 3 True) _ (by kernel_rfl) (tsI 3 trivial) h
  ·have h := h.2 hb
   refine aw_skip ?_
   refine thenQ_n ?_
   refine sr ?_
   obtain ⟨o1, h⟩ := h
   refine rq 6 (ob := (Ts 1 (inIdx (0 : Int) steps.length ∧ Ts 4 True))) (st' := (⟨102, [s1 2 (.pS steps), sp 3 3, sp 6 6, sp 9 9], [e61_0 g, e61_4, e61_9 steps]⟩ : St)) (by kernel_rfl) (tsI 1 ⟨o1, tsI 4 trivial⟩) ?_
   refine nsr ?_
   obtain ⟨o1, h⟩ := h
   refine rq 3 (ob := (Ts 1 ((0 ≤ (1 : Int) ∧ (1 : Int) ≤ (steps.length : Int)) ∧ Ts 1 True))) (st' := (⟨102, [s1 2 (.pS (steps.drop ((1 : Int)).toNat)), sp 3 3, sp 6 6, sp 9 9], [e61_0 g, e61_4, e61_9 steps]⟩ : St)) (by kernel_rfl) (tsI 1 ⟨o1, tsI 1 trivial⟩) ?_
   refine nn ?_
   refine aw_seq ?_
   refine sr ?_
   obtain ⟨o1, h⟩ := h
   refine rq 9 (ob := (Ts 4 (inIdx (steps.getD ((0 : Int)).toNat (0 : Int)) g.2.2.2.length ∧ Ts 4 True))) (st' := (⟨102, [s1 2 (.pS (steps.drop ((1 : Int)).toNat)), sp 3 3, sp 6 6, sp 9 9, e61_2 g steps, e61_1 g steps, sI 71 (0 : Int)], [e61_0 g, e61_4, e61_9 steps]⟩ : St)) (by kernel_rfl) (tsI 4 ⟨o1, tsI 4 trivial⟩) ?_
   refine nn ?_
   refine withJoin (σ := LI × (List Tree) × LI) (fun s => (⟨102, [s1 2 (.pS s.1), sp 6 6, sp 9 9], [e61_4, e61_3 steps, hA 6181 102 .tr s.2.1, hA 6182 3 tI s.2.2]⟩ : St)) (fun s => VC61_k1 steps K s.1 s.2.1 s.2.2) (fun s h => ?_) (fun rest1 => ?_)
   ·obtain ⟨steps2, l6181, l6182⟩ := s
    have h : VC61_k1 steps K steps2 l6181 l6182 := h
    unfold VC61_k1 at h
    refine thenQ_n ?_
    refine srn 5 ⟨102, [sp 6 6, s1 7 (.pS steps2), sB 8 true], [hB 6 [.pI (steps.getD ((0 : Int)).toNat (0 : Int)), .own 6181, .own 6182], hA 6181 102 .tr l6181, e61_6 l6182]⟩ (by kernel_rfl) rfl ?_
    refine aw_conv [.freeze 6181, .freeze 6182] (st' := (⟨102, [sp 6 6, s1 7 (.pS steps2), sB 8 true], [hB 6 [.pI (steps.getD ((0 : Int)).toNat (0 : Int)), .p (.sl .tr) l6181, .pS l6182]]⟩ : St)) (by kernel_rfl) ?_
    refine aw_ret ?_
    exact retQ_r (ob := Ts 3 True) _ (by kernel_rfl) (tsI 3 trivial) h
   ·refine aw_block ?_
    refine aw_conv [.nilOwnB 9 1 6181 102 .tr, .nilOwnB 9 2 6182 3 tI, .prune [2, 3, 6, 9, 69, 70, 71] [3, 6, 9, 6181, 6182]] (st' := (⟨102, [s1 2 (.pS (steps.drop ((1 : Int)).toNat)), sp 3 3, sp 6 6, sp 9 9, e61_2 g steps, e61_1 g steps, sI 71 (0 : Int)], [e61_0 g, e61_4, e61_3 steps, hA 6181 102 .tr ([] : List Tree), hA 6182 3 tI ([] : List Int)]⟩ : St)) (by kernel_rfl) ?_
    refine aw_loop (σ := LI × Int × (List Tree) × LI) (fun s => (⟨102, [s1 2 (.pS s.1), sp 3 3, sp 6 6, sp 9 9, e61_2 g steps, e61_1 g steps, sI 71 s.2.1], [e61_0 g, e61_4, e61_3 steps, hA 6181 102 .tr s.2.2.1, hA 6182 3 tI s.2.2.2]⟩ : St)) (fun s X => VC61_l1 R g steps K s.1 s.2.1 s.2.2.1 s.2.2.2 X) (s0 := ((steps.drop ((1 : Int)).toNat), (0 : Int), ([] : List Tree), ([] : List Int))) (fun s X1 h => ?_) h
    obtain ⟨steps2, v71, l6181, l6182⟩ := s
    have h : VC61_l1 R g steps K steps2 v71 l6181 l6182 X1 := h
    unfold VC61_l1 at h
    refine srn 1 ⟨102, [s1 2 (.pS steps2), sp 3 3, sp 6 6, sp 9 9, e61_2 g steps, e61_1 g steps, sI 71 v71, sB 72 (decide (v71 < (((g.2.2.2.getD ((steps.getD ((0 : Int)).toNat (0 : Int))).toNat ((0 : Int), ([] : LI))).2).length : Int)))], [e61_0 g, e61_4, e61_3 steps, hA 6181 102 .tr l6181, e61_6 l6182]⟩ (by kernel_rfl) rfl ?_
    refine aw_seq ?_
    refine aw_cond (b := (decide (v71 < (((g.2.2.2.getD ((steps.getD ((0 : Int)).toNat (0 : Int))).toNat ((0 : Int), ([] : LI))).2).length : Int)))) (by kernel_rfl) (fun hb => ?_) (fun hb => ?_)
    ·have h := h.1 hb
     refine aw_skip ?_
     refine thenQ_n ?_
     refine aw_seq ?_
     refine aw_block ?_
     refine sr ?_
     obtain ⟨o1, h⟩ := h
     refine rq 3 (ob := (inIdx v71 ((g.2.2.2.getD ((steps.getD ((0 : Int)).toNat (0 : Int))).toNat ((0 : Int), ([] : LI))).2).length ∧ Ts 2 True)) (st' := (⟨102, [s1 2 (.pS steps2), sp 3 3, sp 6 6, sp 9 9, sI 11 (((g.2.2.2.getD ((steps.getD ((0 : Int)).toNat (0 : Int))).toNat ((0 : Int), ([] : LI))).2).getD (v71).toNat (0 : Int)), e61_2 g steps, e61_1 g steps, sI 71 v71], [e61_0 g, e61_4, e61_3 steps, hA 6181 102 .tr l6181, e61_6 l6182]⟩ : St)) (by kernel_rfl) (⟨o1, tsI 2 trivial⟩) ?_
     refine nsr ?_
     refine rqT 3 ⟨102, [sp 3 3, sp 6 6, sp 9 9, e61_2 g steps, e61_1 g steps, sI 71 v71, sA 76 [.pI g.1, .pI g.2.1, .pI g.2.2.1, .p (.sl tR) g.2.2.2], sI 77 (((g.2.2.2.getD ((steps.getD ((0 : Int)).toNat (0 : Int))).toNat ((0 : Int), ([] : LI))).2).getD (v71).toNat (0 : Int)), s1 78 (.pS steps2)], [e61_0 g, e61_4, e61_3 steps, hA 6181 102 .tr l6181, e61_6 l6182]⟩ (by kernel_rfl) ?_
     refine lcq (d := 79) [.d tG, .d tI, .d (.sl tI)] (fun ret79v => (⟨102, [sp 3 3, sp 6 6, sp 9 9, e61_2 g steps, e61_1 g steps, sI 71 v71, (79, [], .tup [.agg [.pI ret79v.1.rule, .p (.sl .tr) ret79v.1.kids, .pS ret79v.1.word], .c (.pS ret79v.2.1), .c (.pB ret79v.2.2)])], [e61_0 g, e61_4, e61_3 steps, hA 6181 102 .tr l6181, e61_6 l6182]⟩ : St)) (by kernel_rfl) Try.call61 (fun _ => by kernel_rfl) (hR g (((g.2.2.2.getD ((steps.getD ((0 : Int)).toNat (0 : Int))).toNat ((0 : Int), ([] : LI))).2).getD (v71).toNat (0 : Int)) steps2 _ h) (fun ret79v h => ?_)
     refine rqT 8 ⟨102, [sp 3 3, sp 6 6, sp 9 9, sp 12 12, s1 13 (.pS ret79v.2.1), sB 14 ret79v.2.2, e61_2 g steps, e61_1 g steps, sI 71 v71], [e61_0 g, e61_4, e61_3 steps, e61_7 ret79v, hA 6181 102 .tr l6181, e61_6 l6182]⟩ (by kernel_rfl) ?_
     refine nn ?_
     refine aw_seq ?_
     refine srn 2 ⟨102, [sp 3 3, sp 6 6, sp 9 9, sp 12 12, s1 13 (.pS ret79v.2.1), e61_2 g steps, e61_1 g steps, sI 71 v71, sB 84 (!ret79v.2.2)], [e61_0 g, e61_4, e61_3 steps, e61_7 ret79v, hA 6181 102 .tr l6181, e61_6 l6182]⟩ (by kernel_rfl) rfl ?_
     refine aw_cond (b := (!ret79v.2.2)) (by kernel_rfl) (fun hb => ?_) (fun hb => ?_)
     ·have h := h.1 hb
      refine srn 4 ⟨102, [sp 6 6, s1 7 (.nils), sB 8 false], [e61_4]⟩ (by kernel_rfl) rfl ?_
      refine aw_ret ?_
      refine thenQ_r ?_
      refine blockQ_r ?_
      refine thenQ_r ?_
      refine thenQ_r ?_
      refine blockQ_r ?_
      refine thenQ_r ?_
      exact retQ_r (ob := Ts 3 True) _ (by kernel_rfl) (tsI 3 trivial) h
     ·have h := h.2 hb
      refine aw_skip ?_
      refine thenQ_n ?_
      refine sr ?_
      obtain ⟨o1, h⟩ := h
      refine rq 7 (ob := (Ts 4 (roomN (l6181.length + [(Tree.node ret79v.1.rule ret79v.1.kids ret79v.1.word)].length) ∧ Ts 2 True))) (st' := (⟨102, [sp 3 3, sp 6 6, sp 9 9, sp 12 12, s1 13 (.pS ret79v.2.1), e61_2 g steps, e61_1 g steps, sI 71 v71], [e61_0 g, e61_4, hB 9 [.pI (steps.getD ((0 : Int)).toNat (0 : Int)), .own 90, .own 6182], e61_7 ret79v, e61_5 l6181 ret79v, e61_6 l6182]⟩ : St)) (by kernel_rfl) (tsI 4 ⟨o1, tsI 2 trivial⟩) ?_
      refine nsr ?_
      obtain ⟨o1, h⟩ := h
      refine rq 7 (ob := (Ts 4 (roomN (l6182.length + ret79v.1.word.length) ∧ Ts 2 True))) (st' := (⟨102, [sp 3 3, sp 6 6, sp 9 9, s1 13 (.pS ret79v.2.1), e61_2 g steps, e61_1 g steps, sI 71 v71], [e61_0 g, e61_4, e61_8 steps, e61_5 l6181 ret79v, hA 96 3 tI (l6182 ++ ret79v.1.word)]⟩ : St)) (by kernel_rfl) (tsI 4 ⟨o1, tsI 2 trivial⟩) ?_
      refine nn ?_
      refine aw_region ?_
      refine rqT 2 ⟨102, [s1 2 (.pS ret79v.2.1), sp 3 3, sp 6 6, sp 9 9, e61_2 g steps, e61_1 g steps, sI 71 v71], [e61_0 g, e61_4, e61_8 steps, e61_5 l6181 ret79v, hA 96 3 tI (l6182 ++ ret79v.1.word)]⟩ (by kernel_rfl) ?_
      refine awl_nil ?_
      refine blockQ_n ?_
      refine thenQ_n ?_
      refine aw_region ?_
      obtain ⟨o1, h⟩ := h
      refine rq 2 (ob := (InR (v71 + (1 : Int)) ∧ Ts 1 True)) (st' := (⟨102, [s1 2 (.pS ret79v.2.1), sp 3 3, sp 6 6, sp 9 9, e61_2 g steps, e61_1 g steps, sI 71 (v71 + (1 : Int))], [e61_0 g, e61_4, e61_8 steps, e61_5 l6181 ret79v, hA 96 3 tI (l6182 ++ ret79v.1.word)]⟩ : St)) (by kernel_rfl) (⟨o1, tsI 1 trivial⟩) ?_
      refine awl_conv [.ren 90 20090, .ren 96 20096, .ren 20090 6181, .ren 20096 6182] (st' := (⟨102, [s1 2 (.pS ret79v.2.1), sp 3 3, sp 6 6, sp 9 9, e61_2 g steps, e61_1 g steps, sI 71 (v71 + (1 : Int))], [e61_0 g, e61_4, e61_3 steps, hA 6181 102 .tr (l6181 ++ [(Tree.node ret79v.1.rule ret79v.1.kids ret79v.1.word)]), hA 6182 3 tI (l6182 ++ ret79v.1.word)]⟩ : St)) (by kernel_rfl) ?_
      refine awl_nil ?_
      exact thenQ_n ⟨(ret79v.2.1, (v71 + (1 : Int)), (l6181 ++ [(Tree.node ret79v.1.rule ret79v.1.kids ret79v.1.word)]), (l6182 ++ ret79v.1.word)), rfl, h⟩
    ·have h := h.2 hb
     refine cpr (st' := (⟨102, [s1 2 (.pS steps2), sp 6 6, sp 9 9], [e61_4, e61_3 steps, hA 6181 102 .tr l6181, e61_6 l6182]⟩ : St)) (by kernel_rfl) ?_
     refine aw_exit ?_
     refine thenQ_x ?_
     refine thenQ_x ?_
     refine blockQ_hit ?_
     exact rest1 (steps2, l6181, l6182) h
def VC61_it : Nat → TG → Int → LI → (Tree × LI × Bool → Prop) → Prop
  | 0 => fun _ _ _ _ => False
  | n + 1 => fun x0 x1 x2 K => VC61 (VC61_it n) x0 x1 x2 K
def VCr61 (x0 : TG) (x1 : Int) (x2 : LI) (K : Tree × LI × Bool → Prop) : Prop := ∃ n, VC61_it n x0 x1 x2 K
theorem linki61 : ∀ (n : Nat) (x0 : TG) (x1 : Int) (x2 : LI) (K : Tree × LI × Bool → Prop), VC61_it n x0 x1 x2 K → ACalls Try.prog 61 [toV1 tG x0, toV1 tI x1, toV1 (.sl tI) x2] (fun res => ∃ y, res = (fun y => [toV1 .tr y.1, toV1 (.sl tI) y.2.1, toV1 .bool y.2.2]) y ∧ K y)
  | 0, _, _, _, _, h => False.elim h
  | n + 1, x0, x1, x2, K, h => link61 (VC61_it n) (linki61 n) x0 x1 x2 K h
theorem linkr61 (x0 : TG) (x1 : Int) (x2 : LI) (K : Tree × LI × Bool → Prop) (h : VCr61 x0 x1 x2 K) : ACalls Try.prog 61 [toV1 tG x0, toV1 tI x1, toV1 (.sl tI) x2] (fun res => ∃ y, res = (fun y => [toV1 .tr y.1, toV1 (.sl tI) y.2.1, toV1 .bool y.2.2]) y ∧ K y) := by
  obtain ⟨n, h⟩ := h
  exact linki61 n x0 x1 x2 K h
abbrev e70_0 (s1v : LI) : Nat × Path × AV := sI 12 (s1v.length : Int)
-- slices.Equal[[]int,int]
def VC70_k1 (K : Bool → Prop) : Prop :=
  K true
def VC70_l1 (s1v : LI) (s2v : LI) (K : Bool → Prop) (v13 : Int) (X1 : Int → Prop) : Prop :=
  (((decide (v13 < (s1v.length : Int))) = true → (inIdx v13 s1v.length ∧ inIdx v13 s2v.length ∧ (((!decide ((s1v.getD (v13).toNat (0 : Int)) = (s2v.getD (v13).toNat (0 : Int)))) = true → K false) ∧ ((!decide ((s1v.getD (v13).toNat (0 : Int)) = (s2v.getD (v13).toNat (0 : Int)))) = false → (InR (v13 + (1 : Int)) ∧ X1 (v13 + (1 : Int))))))) ∧ ((decide (v13 < (s1v.length : Int))) = false → VC70_k1 K))
def VC70 (s1v : LI) (s2v : LI) (K : Bool → Prop) : Prop :=
  (((!decide ((s1v.length : Int) = (s2v.length : Int))) = true → K false) ∧ ((!decide ((s1v.length : Int) = (s2v.length : Int))) = false → Loop (σ := Int) (fun s X => VC70_l1 s1v s2v K s X) (0 : Int)))
set_option maxHeartbeats 4000000 in
theorem link70 (s1v : LI) (s2v : LI) (K : Bool → Prop) (h : VC70 s1v s2v K) : ACalls Try.prog 70 [toV1 (.sl tI) s1v, toV1 (.sl tI) s2v] (fun res => ∃ y, res = (fun y => [toV1 .bool y]) y ∧ K y) := by
 refine acalls_of_aw [.bool] [.t 4] Try.func70 rfl rfl rfl ?_
 unfold VC70 at h
 refine srn 1 ⟨26, [s1 0 (.pS s1v), s1 1 (.pS s2v)], []⟩ (by kernel_rfl) rfl ?_
 refine aw_seq ?_
 refine srn 5 ⟨26, [s1 0 (.pS s1v), s1 1 (.pS s2v), sB 10 (!decide ((s1v.length : Int) = (s2v.length : Int)))], []⟩ (by kernel_rfl) rfl ?_
 refine aw_cond (b := (!decide ((s1v.length : Int) = (s2v.length : Int)))) (by kernel_rfl) (fun hb => ?_) (fun hb => ?_)
 ·have h := h.1 hb
  refine srn 1 ⟨26, [sB 4 false], []⟩ (by kernel_rfl) rfl ?_
  refine aw_ret ?_
  refine thenQ_r ?_
  exact retQ_r (ob := Ts 1 True) _ (by kernel_rfl) (tsI 1 trivial) h
 ·have h := h.2 hb
  refine aw_skip ?_
  refine thenQ_n ?_
  refine aw_seq ?_
  refine srn 3 ⟨26, [s1 0 (.pS s1v), s1 1 (.pS s2v), e70_0 s1v, sI 13 (0 : Int)], []⟩ (by kernel_rfl) rfl ?_
  refine withJoin (σ := Unit) (fun s => (⟨26, [], []⟩ : St)) (fun s => VC70_k1 K) (fun s h => ?_) (fun rest1 => ?_)
  ·have h : VC70_k1 K := h
   unfold VC70_k1 at h
   refine thenQ_n ?_
   refine srn 1 ⟨26, [sB 4 true], []⟩ (by kernel_rfl) rfl ?_
   refine aw_ret ?_
   exact retQ_r (ob := Ts 1 True) _ (by kernel_rfl) (tsI 1 trivial) h
  ·refine aw_block ?_
   refine aw_loop (σ := Int) (fun s => (⟨26, [s1 0 (.pS s1v), s1 1 (.pS s2v), e70_0 s1v, sI 13 s], []⟩ : St)) (fun s X => VC70_l1 s1v s2v K s X) (s0 := (0 : Int)) (fun v13 X1 h => ?_) h
   have h : VC70_l1 s1v s2v K v13 X1 := h
   unfold VC70_l1 at h
   refine srn 1 ⟨26, [s1 0 (.pS s1v), s1 1 (.pS s2v), e70_0 s1v, sI 13 v13, sB 14 (decide (v13 < (s1v.length : Int)))], []⟩ (by kernel_rfl) rfl ?_
   refine aw_seq ?_
   refine aw_cond (b := (decide (v13 < (s1v.length : Int)))) (by kernel_rfl) (fun hb => ?_) (fun hb => ?_)
   ·have h := h.1 hb
    refine aw_skip ?_
    refine thenQ_n ?_
    refine aw_seq ?_
    refine aw_block ?_
    refine srn 2 ⟨26, [s1 0 (.pS s1v), s1 1 (.pS s2v), sI 5 v13, e70_0 s1v, sI 13 v13], []⟩ (by kernel_rfl) rfl ?_
    refine aw_seq ?_
    refine awd_begin [] (by kernel_rfl) ?_
    obtain ⟨o1, o2, h⟩ := h
    refine drq (by kernel_rfl) [0, 1, 2, 3, 4, 5, 6, 7, 8] (ob := (Ts 2 (inIdx v13 s1v.length ∧ Ts 3 (inIdx v13 s2v.length ∧ Ts 2 True)))) (done' := [8, 7, 6, 5, 4, 3, 2, 1, 0]) (st' := (⟨26, [s1 0 (.pS s1v), s1 1 (.pS s2v), e70_0 s1v, sI 13 v13, sB 24 (!decide ((s1v.getD (v13).toNat (0 : Int)) = (s2v.getD (v13).toNat (0 : Int))))], []⟩ : St)) (by kernel_rfl) (tsI 2 (⟨o1, tsI 3 ⟨o2, tsI 2 trivial⟩⟩)) ?_
    refine awd_done (by kernel_rfl) ?_
    refine thenQ_n ?_
    refine aw_cond (b := (!decide ((s1v.getD (v13).toNat (0 : Int)) = (s2v.getD (v13).toNat (0 : Int))))) (by kernel_rfl) (fun hb => ?_) (fun hb => ?_)
    ·have h := h.1 hb
     refine srn 1 ⟨26, [sB 4 false], []⟩ (by kernel_rfl) rfl ?_
     refine aw_ret ?_
     refine blockQ_r ?_
     refine thenQ_r ?_
     refine thenQ_r ?_
     refine blockQ_r ?_
     refine thenQ_r ?_
     exact retQ_r (ob := Ts 1 True) _ (by kernel_rfl) (tsI 1 trivial) h
    ·have h := h.2 hb
     refine aw_skip ?_
     refine blockQ_n ?_
     refine thenQ_n ?_
     refine aw_region ?_
     obtain ⟨o1, h⟩ := h
     refine rq 2 (ob := (InR (v13 + (1 : Int)) ∧ Ts 1 True)) (st' := (⟨26, [s1 0 (.pS s1v), s1 1 (.pS s2v), e70_0 s1v, sI 13 (v13 + (1 : Int))], []⟩ : St)) (by kernel_rfl) (⟨o1, tsI 1 trivial⟩) ?_
     refine awl_nil ?_
     exact thenQ_n ⟨(v13 + (1 : Int)), rfl, h⟩
   ·have h := h.2 hb
    refine cpr (st' := (⟨26, [], []⟩ : St)) (by kernel_rfl) ?_
    refine aw_exit ?_
    refine thenQ_x ?_
    refine thenQ_x ?_
    refine blockQ_hit ?_
    exact rest1 () h
end Dec
