/-
  Printed by dec2.py: of each function its plain demand, and that the demand gives the contract.
-/
import Derived.Test.YtfchgkifdfgbmaaGenAa
set_option linter.unusedVariables false
set_option linter.unusedSimpArgs false
set_option maxRecDepth 100000
namespace Dec
open Go Go.RowKit Go.Proofs
abbrev e6b0 (g : TG) (w : LI) (rv : (List ((Int × Int) × Int))) : Nat × Path × Con := hB 70000 [.pI g.1, .pI g.2.1, .pI g.2.2.1, .p (.sl tR) g.2.2.2, .pS w, .p (.mp (.pr tI tI) (.int .u32)) rv, .own 70001]
abbrev e6b1 (ret51v : (List ((Int × (Int × Int)) × (List (Int × LN))))) : Nat × Path × Con := (70001, [], .dict t3 (.sl (.pr tI (.sl t3))) ret51v)
abbrev e6b2 (number : (List ((Int × (Int × Int)) × Int))) (g : TG) (w : LI) : Nat × Path × Con := hB 11 [.own 6220, .pI ((mget number ((g.1 + g.2.2.1), ((0 : Int), (w.length : Int)))).getD (0 : Int))]
abbrev e6b3 (l6220 : (List (Int × (Int × (Int × LL))))) : Nat × Path × Con := hA 6220 36 (.pr tI (.pr tI (.pr tI (.sl (.sl tI))))) l6220
abbrev e6b4 (srtv : List (Int × (Int × Int))) (v57 : Int) : Nat × Path × Con := hB 14 [.pI ((srtv.getD ((v57).toNat) z3).1), .pI ((srtv.getD ((v57).toNat) z3).2.1), .pI ((srtv.getD ((v57).toNat) z3).2.2), .own 6283]
abbrev e6b5 : Nat × Path × Con := hB 4 [.nils, .pI (0 : Int)]
abbrev e6b6 (ret51v : (List ((Int × (Int × Int)) × (List (Int × LN))))) (srtv : List (Int × (Int × Int))) (v57 : Int) : Nat × Path × AV := s1 75 (.p (.sl (.pr tI (.sl t3))) ((mget ret51v (srtv.getD ((v57).toNat) z3)).getD ([] : (List (Int × LN)))))
abbrev e6b7 : Nat × Path × Con := hB 30000 [.nils, .pI (0 : Int)]
abbrev e6b8 (g : TG) : Nat × Path × Con := hB 2 [.pI g.1, .pI g.2.1, .pI g.2.2.1, .p (.sl tR) g.2.2.2]
abbrev e6b9 (ret51v : (List ((Int × (Int × Int)) × (List (Int × LN))))) (srtv : List (Int × (Int × Int))) (v57 : Int) : Nat × Path × AV := sI 76 (((mget ret51v (srtv.getD ((v57).toNat) z3)).getD ([] : (List (Int × LN)))).length : Int)
abbrev e6b10 (g : TG) (w : LI) : Nat × Path × Con := hB 3 [.pI (g.1 + g.2.2.1), .pI (0 : Int), .pI (w.length : Int)]
abbrev e6b11 : Nat × Path × Con := (25, [], .dict t3 (.sl (.pr tI (.sl t3))) ([] : List ((Int × (Int × Int)) × (List (Int × LN)))))
abbrev e6b12 (number : (List ((Int × (Int × Int)) × Int))) : Nat × Path × Con := (39, [], .dict t3 tI number)
abbrev e6b13 (ret51v : (List ((Int × (Int × Int)) × (List (Int × LN))))) (srtv : List (Int × (Int × Int))) (v57 : Int) (v77 : Int) : Nat × Path × AV := sI 86 (((((mget ret51v (srtv.getD ((v57).toNat) z3)).getD ([] : (List (Int × LN)))).getD (v77).toNat ((0 : Int), ([] : LN))).2).length : Int)
abbrev e6b14 (ret51v : (List ((Int × (Int × Int)) × (List (Int × LN))))) (srtv : List (Int × (Int × Int))) (v57 : Int) (v77 : Int) : Nat × Path × AV := s1 85 (.p (.sl t3) ((((mget ret51v (srtv.getD ((v57).toNat) z3)).getD ([] : (List (Int × LN)))).getD (v77).toNat ((0 : Int), ([] : LN))).2))
abbrev e6b15 (srtv : List (Int × (Int × Int))) : Nat × Path × AV := sI 56 (srtv.length : Int)
abbrev e6b16 : Nat × Path × AV := sp 120 30000
abbrev e6b17 (srtv : List (Int × (Int × Int))) : Nat × Path × Con := hA 5006 58 t3 srtv
abbrev e6b18 (g : TG) (w : LI) (rv : (List ((Int × Int) × Int))) : Nat × Path × Con := hB 27 [.pI g.1, .pI g.2.1, .pI g.2.2.1, .p (.sl tR) g.2.2.2, .pS w, .p (.mp (.pr tI tI) (.int .u32)) rv, .own 25]
abbrev e6b19 (g : TG) (w : LI) (ret24v : (List ((Int × Int) × Int))) : Nat × Path × Con := hB 27 [.pI g.1, .pI g.2.1, .pI g.2.2.1, .p (.sl tR) g.2.2.2, .pS w, .p (.mp (.pr tI tI) (.int .u32)) ret24v, .own 25]
abbrev e6b20 : Nat × Path × AV := sp 0 70000
abbrev e6b21 : Nat × Path × AV := s1 8 (.own 39)
abbrev e6b22 : Nat × Path × AV := sp 4 4
abbrev e6b23 : Nat × Path × AV := s1 55 (.own 5006)
abbrev e6b24 (l6283 : LL) : Nat × Path × Con := hA 6283 25 (.sl tI) l6283
abbrev e6b25 (ret51v : (List ((Int × (Int × Int)) × (List (Int × LN))))) (srtv : List (Int × (Int × Int))) (v57 : Int) (v77 : Int) : Nat × Path × Con := hB 16 [.pI ((((mget ret51v (srtv.getD ((v57).toNat) z3)).getD ([] : (List (Int × LN)))).getD (v77).toNat ((0 : Int), ([] : LN))).1), .p (.sl t3) ((((mget ret51v (srtv.getD ((v57).toNat) z3)).getD ([] : (List (Int × LN)))).getD (v77).toNat ((0 : Int), ([] : LN))).2)]
abbrev e6b26 (g : TG) (w : LI) : Nat × Path × Con := hB 8 [.pI (g.1 + g.2.2.1), .pI (0 : Int), .pI (w.length : Int)]
abbrev e6b27 (g : TG) : Nat × Path × AV := sA 20 [.pI g.1, .pI g.2.1, .pI g.2.2.1, .p (.sl tR) g.2.2.2]
abbrev e6b28 (l6220 : (List (Int × (Int × (Int × LL))))) (srtv : List (Int × (Int × Int))) (v57 : Int) (srtv2 : List LI) : Nat × Path × Con := hA 112 36 (.pr tI (.pr tI (.pr tI (.sl (.sl tI))))) (l6220 ++ [((srtv.getD ((v57).toNat) z3).1, ((srtv.getD ((v57).toNat) z3).2.1, ((srtv.getD ((v57).toNat) z3).2.2, srtv2)))])
abbrev e6b29 : Nat × Path × AV := s1 6 (.own 5006)
abbrev e6b30 (ret51v : (List ((Int × (Int × Int)) × (List (Int × LN))))) (l24 : (List Nat)) (j25 : Nat) : Nat × Path × Con := (24, [], .mit (.own 70001) ret51v.length (l24 ++ [j25]))
abbrev e6b31 (g : TG) (w : LI) (ret24v : (List ((Int × Int) × Int))) : Nat × Path × AV := sA 26 [.pI g.1, .pI g.2.1, .pI g.2.2.1, .p (.sl tR) g.2.2.2, .pS w, .p (.mp (.pr tI tI) (.int .u32)) ret24v, .own 25]
abbrev e6b32 : Nat × Path × AV := sp 11 11
abbrev e6b33 (srtv : List (Int × (Int × Int))) (v57 : Int) : Nat × Path × Con := hB 14 [.pI ((srtv.getD ((v57).toNat) z3).1), .pI ((srtv.getD ((v57).toNat) z3).2.1), .pI ((srtv.getD ((v57).toNat) z3).2.2), .own 102]
abbrev e6b34 (srtv : List (Int × (Int × Int))) (v57 : Int) : Nat × Path × Con := hB 14 [.pI ((srtv.getD ((v57).toNat) z3).1), .pI ((srtv.getD ((v57).toNat) z3).2.1), .pI ((srtv.getD ((v57).toNat) z3).2.2), .nils]
abbrev e6b35 (srtv : List (Int × (Int × Int))) (v57 : Int) : Nat × Path × Con := hB 13 [.pI ((srtv.getD ((v57).toNat) z3).1), .pI ((srtv.getD ((v57).toNat) z3).2.1), .pI ((srtv.getD ((v57).toNat) z3).2.2)]
abbrev e6b36 (w : LI) : Nat × Path × AV := s1 1 (.pS w)
abbrev e6b37 : Nat × Path × Con := (70001, [], .dict t3 (.sl (.pr tI (.sl t3))) ([] : List ((Int × (Int × Int)) × (List (Int × LN)))))
abbrev e6b38 : Nat × Path × AV := sp 14 14
abbrev e6b39 (ret24v : (List ((Int × Int) × Int))) : Nat × Path × AV := s1 24 (.p (.mp (.pr tI tI) (.int .u32)) ret24v)
abbrev e6b40 (g : TG) (w : LI) : Nat × Path × AV := sA 50 [.pI (g.1 + g.2.2.1), .pI (0 : Int), .pI (w.length : Int)]
abbrev e6b41 (g : TG) : Nat × Path × AV := sA 22 [.pI g.1, .pI g.2.1, .pI g.2.2.1, .p (.sl tR) g.2.2.2]
abbrev e6b42 (keys : LN) : Nat × Path × Con := hA 5006 58 t3 keys
abbrev e6b43 : Nat × Path × Con := (39, [], .dict t3 tI ([] : List ((Int × (Int × Int)) × Int)))
abbrev e6b44 : Nat × Path × AV := s1 17 (.own 83)
abbrev e6b45 : Nat × Path × AV := s1 40 (.own 5006)
abbrev e6bn0 : List Nat := [4, 11, 14, 39, 5006, 6220, 6283, 30000, 70000, 70001]
abbrev e6bn1 : List Nat := [0, 4, 8, 11, 14, 55, 56, 57, 75, 76, 77, 120]
abbrev e6bn2 : List Nat := [4, 11, 39, 5006, 6220, 30000, 70000, 70001]
-- coppicer/thicket.Build
def VC6_k2 (K : ((List (Int × (Int × (Int × LL)))) × Int) × Int → Prop) (v5 : Int) (l4 : Int) (l6080 : (List (Int × (Int × (Int × LL))))) : Prop :=
  K ((l6080, l4), v5)
def VC6_k5 (g : TG) (w : LI) (K : ((List (Int × (Int × (Int × LL)))) × Int) × Int → Prop) (number : (List ((Int × (Int × Int)) × Int))) (l6220 : (List (Int × (Int × (Int × LL))))) : Prop :=
  VC6_k2 K (0 : Int) ((mget number ((g.1 + g.2.2.1), ((0 : Int), (w.length : Int)))).getD (0 : Int)) l6220
def VC6_k6 (K : ((List (Int × (Int × (Int × LL)))) × Int) × Int → Prop) (srtv : List (Int × (Int × Int))) (v57 : Int) (l6220 : (List (Int × (Int × (Int × LL))))) (X1 : Int × (List (Int × (Int × (Int × LL)))) → Prop) (l6283 : LL) : Prop :=
  SortVC l6283 (fun (x : LI × LI) (K : Int → Prop) => VC40 x.1 x.2 K) (fun (srtv2 : List LI) => (roomN (l6220.length + [((srtv.getD ((v57).toNat) z3).1, ((srtv.getD ((v57).toNat) z3).2.1, ((srtv.getD ((v57).toNat) z3).2.2, srtv2)))].length) ∧ (InR (v57 + (1 : Int)) ∧ X1 ((v57 + (1 : Int)), (l6220 ++ [((srtv.getD ((v57).toNat) z3).1, ((srtv.getD ((v57).toNat) z3).2.1, ((srtv.getD ((v57).toNat) z3).2.2, srtv2)))])))))
def VC6_k7 (v77 : Int) (l6283 : LL) (X2 : Int × LL → Prop) (row : LI) : Prop :=
  (roomN (l6283.length + [row].length) ∧ (InR (v77 + (1 : Int)) ∧ X2 ((v77 + (1 : Int)), (l6283 ++ [row]))))
def VC6_l3 (ret51v : (List ((Int × (Int × Int)) × (List (Int × LN))))) (srtv : List (Int × (Int × Int))) (number : (List ((Int × (Int × Int)) × Int))) (v57 : Int) (v77 : Int) (l6283 : LL) (X2 : Int × LL → Prop) (v87 : Int) (row : LI) (X3 : Int × LI → Prop) : Prop :=
  (((decide (v87 < (((((mget ret51v (srtv.getD ((v57).toNat) z3)).getD ([] : (List (Int × LN)))).getD (v77).toNat ((0 : Int), ([] : LN))).2).length : Int))) = true → (inIdx v87 ((((mget ret51v (srtv.getD ((v57).toNat) z3)).getD ([] : (List (Int × LN)))).getD (v77).toNat ((0 : Int), ([] : LN))).2).length ∧ (roomN (row.length + [((mget number (((((mget ret51v (srtv.getD ((v57).toNat) z3)).getD ([] : (List (Int × LN)))).getD (v77).toNat ((0 : Int), ([] : LN))).2).getD (v87).toNat z3)).getD (0 : Int))].length) ∧ (InR (v87 + (1 : Int)) ∧ X3 ((v87 + (1 : Int)), (row ++ [((mget number (((((mget ret51v (srtv.getD ((v57).toNat) z3)).getD ([] : (List (Int × LN)))).getD (v77).toNat ((0 : Int), ([] : LN))).2).getD (v87).toNat z3)).getD (0 : Int))])))))) ∧ ((decide (v87 < (((((mget ret51v (srtv.getD ((v57).toNat) z3)).getD ([] : (List (Int × LN)))).getD (v77).toNat ((0 : Int), ([] : LN))).2).length : Int))) = false → VC6_k7 v77 l6283 X2 row))
def VC6_l2 (K : ((List (Int × (Int × (Int × LL)))) × Int) × Int → Prop) (ret51v : (List ((Int × (Int × Int)) × (List (Int × LN))))) (srtv : List (Int × (Int × Int))) (number : (List ((Int × (Int × Int)) × Int))) (v57 : Int) (l6220 : (List (Int × (Int × (Int × LL))))) (X1 : Int × (List (Int × (Int × (Int × LL)))) → Prop) (v77 : Int) (l6283 : LL) (X2 : Int × LL → Prop) : Prop :=
  (((decide (v77 < (((mget ret51v (srtv.getD ((v57).toNat) z3)).getD ([] : (List (Int × LN)))).length : Int))) = true → (inIdx v77 ((mget ret51v (srtv.getD ((v57).toNat) z3)).getD ([] : (List (Int × LN)))).length ∧ Loop (σ := Int × LI) (fun s X => VC6_l3 ret51v srtv number v57 v77 l6283 X2 s.1 s.2 X) ((0 : Int), [(((mget ret51v (srtv.getD ((v57).toNat) z3)).getD ([] : (List (Int × LN)))).getD (v77).toNat ((0 : Int), ([] : LN))).1]))) ∧ ((decide (v77 < (((mget ret51v (srtv.getD ((v57).toNat) z3)).getD ([] : (List (Int × LN)))).length : Int))) = false → VC6_k6 K srtv v57 l6220 X1 l6283))
def VC6_l1 (g : TG) (w : LI) (K : ((List (Int × (Int × (Int × LL)))) × Int) × Int → Prop) (ret51v : (List ((Int × (Int × Int)) × (List (Int × LN))))) (srtv : List (Int × (Int × Int))) (number : (List ((Int × (Int × Int)) × Int))) (v57 : Int) (l6220 : (List (Int × (Int × (Int × LL))))) (X1 : Int × (List (Int × (Int × (Int × LL)))) → Prop) : Prop :=
  (((decide (v57 < (srtv.length : Int))) = true → (inIdx v57 srtv.length ∧ Loop (σ := Int × LL) (fun s X => VC6_l2 K ret51v srtv number v57 l6220 X1 s.1 s.2 X) ((0 : Int), ([] : List LI)))) ∧ ((decide (v57 < (srtv.length : Int))) = false → VC6_k5 g w K number l6220))
def VC6_k4 (g : TG) (w : LI) (K : ((List (Int × (Int × (Int × LL)))) × Int) × Int → Prop) (ret51v : (List ((Int × (Int × Int)) × (List (Int × LN))))) (srtv : List (Int × (Int × Int))) (number : (List ((Int × (Int × Int)) × Int))) : Prop :=
  Loop (σ := Int × (List (Int × (Int × (Int × LL))))) (fun s X => VC6_l1 g w K ret51v srtv number s.1 s.2 X) ((0 : Int), ([] : List (Int × (Int × (Int × LL)))))
def VC6_l4 (g : TG) (w : LI) (K : ((List (Int × (Int × (Int × LL)))) × Int) × Int → Prop) (ret51v : (List ((Int × (Int × Int)) × (List (Int × LN))))) (srtv : List (Int × (Int × Int))) (v42 : Int) (number : (List ((Int × (Int × Int)) × Int))) (X4 : Int × (List ((Int × (Int × Int)) × Int)) → Prop) : Prop :=
  (((decide (v42 < (srtv.length : Int))) = true → (inIdx v42 srtv.length ∧ (InR (v42 + (1 : Int)) ∧ X4 ((v42 + (1 : Int)), (mset number (srtv.getD ((v42).toNat) z3) v42))))) ∧ ((decide (v42 < (srtv.length : Int))) = false → VC6_k4 g w K ret51v srtv number))
def VC6_k3 (g : TG) (w : LI) (K : ((List (Int × (Int × (Int × LL)))) × Int) × Int → Prop) (ret51v : (List ((Int × (Int × Int)) × (List (Int × LN))))) (keys : LN) : Prop :=
  (((decide ((200 : Int) < (keys.length : Int))) = true → VC6_k2 K (1 : Int) (0 : Int) ([] : List (Int × (Int × (Int × LL))))) ∧ ((decide ((200 : Int) < (keys.length : Int))) = false → SortVC keys (fun (x : (Int × (Int × Int)) × (Int × (Int × Int))) (K : Int → Prop) => VC36 x.1 x.2 K) (fun (srtv : List (Int × (Int × Int))) => Loop (σ := Int × (List ((Int × (Int × Int)) × Int))) (fun s X => VC6_l4 g w K ret51v srtv s.1 s.2 X) ((0 : Int), ([] : List ((Int × (Int × Int)) × Int))))))
def VC6_l5 (g : TG) (w : LI) (K : ((List (Int × (Int × (Int × LL)))) × Int) × Int → Prop) (ret51v : (List ((Int × (Int × Int)) × (List (Int × LN))))) (l24 : (List Nat)) (keys : LN) (X5 : (List Nat) × LN → Prop) : Prop :=
  ((∀ (j25 : Nat), j25 < ret51v.length → j25 ∉ l24 → (j25 < ret51v.length ∧ (roomN (keys.length + [(ret51v.getD j25 (z3, ([] : (List (Int × LN))))).1].length) ∧ X5 (l24 ++ [j25], (keys ++ [(ret51v.getD j25 (z3, ([] : (List (Int × LN))))).1]))))) ∧ ((∀ (j25 : Nat), j25 < ret51v.length → j25 ∈ l24) → VC6_k3 g w K ret51v keys))
def VC6_k1 (g : TG) (w : LI) (K : ((List (Int × (Int × (Int × LL)))) × Int) × Int → Prop) (rv : (List ((Int × Int) × Int))) : Prop :=
  (InR (g.1 + g.2.2.1) ∧ VC15 ((mget rv ((0 : Int), (w.length : Int))).getD (0 : Int)) g.2.2.1 (fun (ret46v : Bool) => (((!ret46v) = true → K ((([] : (List (Int × (Int × (Int × LL))))), (0 : Int)), (5 : Int))) ∧ ((!ret46v) = false → VCcr16 g.1 g.2.1 g.2.2.1 g.2.2.2 w rv (g.1 + g.2.2.1) (0 : Int) (w.length : Int) ([] : List ((Int × (Int × Int)) × (List (Int × LN)))) (fun (ret51v : (List ((Int × (Int × Int)) × (List (Int × LN))))) => Loop (σ := (List Nat) × LN) (fun s X => VC6_l5 g w K ret51v s.1 s.2 X) (([] : List Nat), ([] : List (Int × (Int × Int)))))))))
def VC6 (g : TG) (w : LI) (K : ((List (Int × (Int × (Int × LL)))) × Int) × Int → Prop) : Prop :=
  VC12 g w (fun (ret11v : Int) => (((!decide (ret11v = (0 : Int))) = true → K ((([] : (List (Int × (Int × (Int × LL))))), (0 : Int)), ret11v)) ∧ ((!decide (ret11v = (0 : Int))) = false → VC13 g (fun (ret17v : Bool) => (((!ret17v) = true → K ((([] : (List (Int × (Int × (Int × LL))))), (0 : Int)), (3 : Int))) ∧ ((!ret17v) = false → VC14 g w (fun (ret24v : (List ((Int × Int) × Int))) => VC6_k1 g w K ret24v)))))))
set_option maxHeartbeats 4000000 in
theorem link6 (g : TG) (w : LI) (K : ((List (Int × (Int × (Int × LL)))) × Int) × Int → Prop) (h : VC6 g w K) : ACalls Try.prog 6 [toV1 tG g, toV1 (.sl tI) w] (fun res => ∃ y, res = (fun y => [toV1 (.pr (.sl (.pr tI (.pr tI (.pr tI (.sl (.sl tI)))))) tI) y.1, toV1 tI y.2]) y ∧ K y) := by
 refine acalls_of_aw [(.pr (.sl (.pr tI (.pr tI (.pr tI (.sl (.sl tI)))))) tI), tI] [.c 4 28, .t 5] Try.func6 rfl rfl rfl ?_
 unfold VC6 at h
 refine srn 3 ⟨57, [e6b36 w, sp 2 2, e6b22], [e6b8 g, e6b5]⟩ (by kernel_rfl) rfl ?_
 refine aw_seq ?_
 refine sr ?_
 refine rqT 2 ⟨57, [e6b36 w, sp 2 2, e6b22, sA 9 [.pI g.1, .pI g.2.1, .pI g.2.2.1, .p (.sl tR) g.2.2.2], s1 10 (.pS w)], [e6b8 g, e6b5]⟩ (by kernel_rfl) ?_
 refine lcq (d := 11) [.d tG, .d (.sl tI)] (fun ret11v => (⟨57, [e6b36 w, sp 2 2, e6b22, sI 11 ret11v], [e6b8 g, e6b5]⟩ : St)) (by kernel_rfl) Try.call12 (fun _ => by kernel_rfl) (link12 g w _ h) (fun ret11v h => ?_)
 refine rqT 1 ⟨57, [e6b36 w, sp 2 2, e6b22, sI 6 ret11v], [e6b8 g, e6b5]⟩ (by kernel_rfl) ?_
 refine nsr ?_
 refine rqT 2 ⟨57, [e6b36 w, sp 2 2, e6b22, sI 6 ret11v, sB 13 (!decide (ret11v = (0 : Int)))], [e6b8 g, e6b5]⟩ (by kernel_rfl) ?_
 refine nn ?_
 refine aw_cond (b := (!decide (ret11v = (0 : Int)))) (by kernel_rfl) (fun hb => ?_) (fun hb => ?_)
 ·have h := h.1 hb
  refine srn 4 ⟨57, [e6b22, sI 5 ret11v], [e6b5]⟩ (by kernel_rfl) rfl ?_
  refine aw_ret ?_
  refine thenQ_r ?_
  exact retQ_r (ob := Ts 2 True) _ (by kernel_rfl) (tsI 2 trivial) h
 ·have h := h.2 hb
  refine aw_skip ?_
  refine thenQ_n ?_
  refine aw_seq ?_
  refine sr ?_
  refine rqT 1 ⟨57, [e6b36 w, sp 2 2, e6b22, sA 16 [.pI g.1, .pI g.2.1, .pI g.2.2.1, .p (.sl tR) g.2.2.2]], [e6b8 g, e6b5]⟩ (by kernel_rfl) ?_
  refine lcq (d := 17) [.d tG] (fun ret17v => (⟨57, [e6b36 w, sp 2 2, e6b22, sB 17 ret17v], [e6b8 g, e6b5]⟩ : St)) (by kernel_rfl) Try.call13 (fun _ => by kernel_rfl) (link13 g _ h) (fun ret17v h => ?_)
  refine rqT 1 ⟨57, [e6b36 w, sp 2 2, e6b22, sB 18 (!ret17v)], [e6b8 g, e6b5]⟩ (by kernel_rfl) ?_
  refine nn ?_
  refine aw_cond (b := (!ret17v)) (by kernel_rfl) (fun hb => ?_) (fun hb => ?_)
  ·have h := h.1 hb
   refine srn 3 ⟨57, [e6b22, sI 5 (3 : Int)], [e6b5]⟩ (by kernel_rfl) rfl ?_
   refine aw_ret ?_
   refine thenQ_r ?_
   exact retQ_r (ob := Ts 2 True) _ (by kernel_rfl) (tsI 2 trivial) h
  ·have h := h.2 hb
   refine aw_skip ?_
   refine thenQ_n ?_
   refine aw_seq ?_
   refine withJoin (σ := (List ((Int × Int) × Int))) (fun s => (⟨57, [e6b36 w, sp 2 2, e6b22, sp 7 27], [e6b8 g, e6b5, e6b11, hB 27 [.pI g.1, .pI g.2.1, .pI g.2.2.1, .p (.sl tR) g.2.2.2, .pS w, .p (.mp (.pr tI tI) (.int .u32)) s, .own 25]]⟩ : St)) (fun s => VC6_k1 g w K s) (fun rv h => ?_) (fun rest7 => ?_)
   ·have h : VC6_k1 g w K rv := h
    unfold VC6_k1 at h
    refine thenQ_n ?_
    refine sr ?_
    obtain ⟨o1, h⟩ := h
    refine rq 11 (ob := (Ts 4 (InR (g.1 + g.2.2.1) ∧ Ts 6 True))) (st' := (⟨57, [sp 2 2, e6b22, sp 7 27, sp 8 8], [e6b8 g, e6b5, e6b26 g w, e6b11, e6b18 g w rv]⟩ : St)) (by kernel_rfl) (tsI 4 ⟨o1, tsI 6 trivial⟩) ?_
    refine nn ?_
    refine aw_seq ?_
    refine aw_seq ?_
    refine awd_begin [] (by kernel_rfl) ?_
    refine drq (by kernel_rfl) [0, 1, 2, 3, 4, 5, 6, 7, 8] (ob := (Ts 9 True)) (done' := [8, 7, 6, 5, 4, 3, 2, 1, 0]) (st' := (⟨57, [e6b22, sp 7 27, sp 8 8, s1 43 (.pW ((mget rv ((0 : Int), (w.length : Int))).getD (0 : Int))), sI 45 g.2.2.1], [e6b5, e6b26 g w, e6b11, e6b18 g w rv]⟩ : St)) (by kernel_rfl) (tsI 9 trivial) ?_
    refine awd_one (i := 9) (by kernel_rfl) ?_
    refine dcq (d := 46) [.d (.int .u32), .d tI] (fun ret46v => (⟨57, [e6b22, sp 7 27, sp 8 8, sB 46 ret46v], [e6b5, e6b26 g w, e6b11, e6b18 g w rv]⟩ : St)) rfl (by kernel_rfl) Try.call15 (fun _ => by kernel_rfl) (link15 ((mget rv ((0 : Int), (w.length : Int))).getD (0 : Int)) g.2.2.1 _ h) (fun ret46v h => ?_)
    refine drq (by kernel_rfl) [10] (ob := (Ts 1 True)) (done' := [10, 9, 8, 7, 6, 5, 4, 3, 2, 1, 0]) (st' := (⟨57, [e6b22, sp 7 27, sp 8 8, sB 47 (!ret46v)], [e6b5, e6b26 g w, e6b11, e6b18 g w rv]⟩ : St)) (by kernel_rfl) (tsI 1 trivial) ?_
    refine awd_done (by kernel_rfl) ?_
    refine thenQ_n ?_
    refine aw_cond (b := (!ret46v)) (by kernel_rfl) (fun hb => ?_) (fun hb => ?_)
    ·have h := h.1 hb
     refine srn 3 ⟨57, [e6b22, sI 5 (5 : Int)], [e6b5]⟩ (by kernel_rfl) rfl ?_
     refine aw_ret ?_
     refine thenQ_r ?_
     exact retQ_r (ob := Ts 2 True) _ (by kernel_rfl) (tsI 2 trivial) h
    ·have h := h.2 hb
     refine aw_skip ?_
     refine thenQ_n ?_
     refine sr ?_
     refine rqT 2 ⟨57, [e6b22, sp 7 27, sp 8 8, sp 49 27, e6b40 g w], [e6b5, e6b26 g w, e6b11, e6b18 g w rv]⟩ (by kernel_rfl) ?_
     refine awl_conv [.ren 27 70000, .ren 25 70001] (st' := (⟨57, [e6b22, sp 7 70000, sp 8 8, sp 49 70000, e6b40 g w], [e6b5, e6b26 g w, e6b37, e6b0 g w rv]⟩ : St)) (by kernel_rfl) ?_
     refine awl_lcall (σ := (List ((Int × (Int × Int)) × (List (Int × LN))))) [70000, 70001] [70000] [.c (.ptr 70000 0), .agg [.pI (g.1 + g.2.2.1), .pI (0 : Int), .pI (w.length : Int)]] [] (fun ret51v => .tup []) (fun ret51v => [e6b0 g w rv, e6b1 ret51v]) (_) [e6b0 g w rv, e6b37] (fun ret51v => (⟨57, [(51, [], .tup []), e6b22, sp 7 70000, sp 8 8, sp 49 70000, e6b40 g w], [e6b0 g w rv, e6b1 ret51v, e6b5, e6b26 g w]⟩ : St)) rfl rfl (by kernel_rfl) rfl (by kernel_rfl) Try.call16 (by kernel_rfl) (by kernel_rfl) (by kernel_rfl) (fun _ _ => rfl) (fun _ => by kernel_rfl) (linkcr16 g.1 g.2.1 g.2.2.1 g.2.2.2 w rv (g.1 + g.2.2.1) (0 : Int) (w.length : Int) ([] : List ((Int × (Int × Int)) × (List (Int × LN)))) _ h) (fun ret51v h => ?_)
     refine lpr (st' := (⟨57, [e6b22, sp 7 70000, sp 8 8], [e6b5, e6b26 g w, e6b0 g w rv, e6b1 ret51v]⟩ : St)) (by kernel_rfl) ?_
     refine nsr ?_
     refine rqT 2 ⟨57, [e6b22, sp 52 70000, sA 53 [.pI (g.1 + g.2.2.1), .pI (0 : Int), .pI (w.length : Int)]], [e6b5, e6b0 g w rv, e6b1 ret51v]⟩ (by kernel_rfl) ?_
     refine awl_conv [.ren 4 30000] (st' := (⟨57, [sp 4 30000, sp 52 70000, sA 53 [.pI (g.1 + g.2.2.1), .pI (0 : Int), .pI (w.length : Int)]], [e6b7, e6b0 g w rv, e6b1 ret51v]⟩ : St)) (by kernel_rfl) ?_
     refine awl_inlr [.c 4 28, .t 5] [30000, 70000, 70001] [.c (.ptr 70000 0), .agg [.pI (g.1 + g.2.2.1), .pI (0 : Int), .pI (w.length : Int)]] [] rfl rfl (by kernel_rfl) rfl (by kernel_rfl) Try.call17 (by kernel_rfl) (by kernel_rfl) Try.func17 rfl rfl (by kernel_rfl) ?_
     refine aw_conv [] (st' := (⟨116, [e6b20, sA 1 [.pI (g.1 + g.2.2.1), .pI (0 : Int), .pI (w.length : Int)], e6b16, sp 168 70000, sA 169 [.pI (g.1 + g.2.2.1), .pI (0 : Int), .pI (w.length : Int)]], [e6b7, e6b0 g w rv, e6b1 ret51v]⟩ : St)) (by kernel_rfl) ?_
     refine withJoinR (σ := Int × Int × (List (Int × (Int × (Int × LL))))) (fun s => (⟨116, [e6b22, sI 5 s.1, e6b16], [hB 4 [.own 6080, .pI s.2.1], hA 6080 36 (.pr tI (.pr tI (.pr tI (.sl (.sl tI))))) s.2.2, e6b7]⟩ : St)) (fun s => VC6_k2 K s.1 s.2.1 s.2.2) (fun s h => ?_) (fun rest1 => ?_)
     ·obtain ⟨v5, l4, l6080⟩ := s
      have h : VC6_k2 K v5 l4 l6080 := h
      unfold VC6_k2 at h
      refine inlR_n (ob := (True ∧ True ∧ True)) (.tup [.agg [.own 6080, .pI l4], .c (.pI v5)]) (by kernel_rfl) ⟨trivial, trivial, trivial⟩ rfl ?_
      refine lpr (st' := (⟨57, [sp 4 30000, (54, [], .tup [.agg [.own 6080, .pI l4], .c (.pI v5)])], [hA 6080 36 (.pr tI (.pr tI (.pr tI (.sl (.sl tI))))) l6080, e6b7]⟩ : St)) (by kernel_rfl) ?_
      refine rqT 4 ⟨57, [sp 4 30000, sI 5 v5], [hA 6080 36 (.pr tI (.pr tI (.pr tI (.sl (.sl tI))))) l6080, hB 30000 [.own 6080, .pI l4]]⟩ (by kernel_rfl) ?_
      refine nn ?_
      refine aw_conv [.freeze 6080] (st' := (⟨57, [sp 4 30000, sI 5 v5], [hB 30000 [.p (.sl (.pr tI (.pr tI (.pr tI (.sl (.sl tI)))))) l6080, .pI l4]]⟩ : St)) (by kernel_rfl) ?_
      refine aw_ret ?_
      exact retQ_r (ob := Ts 2 True) _ (by kernel_rfl) (tsI 2 trivial) h
     ·refine sr ?_
      refine rqT 3 ⟨116, [e6b20, sp 3 3, e6b22, e6b16], [e6b10 g w, e6b5, e6b7, e6b0 g w rv, e6b1 ret51v]⟩ (by kernel_rfl) ?_
      refine nsr ?_
      refine rqT 1 ⟨116, [e6b20, sp 3 3, e6b22, s1 6 (.nils), e6b16], [e6b10 g w, e6b5, e6b7, e6b0 g w rv, e6b1 ret51v]⟩ (by kernel_rfl) ?_
      refine nn ?_
      refine aw_seq ?_
      refine sr ?_
      refine rqT 4 ⟨116, [e6b20, sp 3 3, e6b22, s1 6 (.nils), s1 23 (.own 70001), e6b16], [e6b10 g w, e6b5, e6b7, e6b0 g w rv, e6b1 ret51v]⟩ (by kernel_rfl) ?_
      refine awl_range (tt := 52) (kk := 58) (vv := 83) (t := 23) (d := 24) (q := 70001) (r := 24) (k := t3) (v := (.sl (.pr tI (.sl t3)))) (l := ret51v) rfl rfl rfl (by kernel_rfl) (by kernel_rfl) (by kernel_rfl) (by kernel_rfl) ?_
      refine lpr (st' := (⟨116, [e6b20, sp 3 3, e6b22, s1 6 (.nils), sp 24 24, e6b16], [e6b10 g w, e6b5, (24, [], .mit (.own 70001) ret51v.length ([] : List Nat)), e6b7, e6b0 g w rv, e6b1 ret51v]⟩ : St)) (by kernel_rfl) ?_
      refine nn ?_
      refine withJoin (σ := LN) (fun s => (⟨116, [e6b20, sp 3 3, e6b22, e6b29, e6b16], [e6b10 g w, e6b5, hA 5006 58 t3 s, e6b7, e6b0 g w rv, e6b1 ret51v]⟩ : St)) (fun s => VC6_k3 g w K ret51v s) (fun keys h => ?_) (fun rest6 => ?_)
      ·have h : VC6_k3 g w K ret51v keys := h
       unfold VC6_k3 at h
       refine thenQ_n ?_
       refine aw_seq ?_
       refine srn 3 ⟨116, [e6b20, sp 3 3, e6b22, e6b29, sB 35 (decide ((200 : Int) < (keys.length : Int))), e6b16], [e6b10 g w, e6b5, e6b42 keys, e6b7, e6b0 g w rv, e6b1 ret51v]⟩ (by kernel_rfl) rfl ?_
       refine aw_cond (b := (decide ((200 : Int) < (keys.length : Int)))) (by kernel_rfl) (fun hb => ?_) (fun hb => ?_)
       ·have h := h.1 hb
        refine srn 3 ⟨116, [e6b22, sI 5 (1 : Int), e6b16], [e6b5, e6b7]⟩ (by kernel_rfl) rfl ?_
        refine aw_conv [.nilOwnB 4 0 6080 36 (.pr tI (.pr tI (.pr tI (.sl (.sl tI))))), .prune [4, 5, 120] [4, 6080, 30000]] (st' := (⟨116, [e6b22, sI 5 (1 : Int), e6b16], [hB 4 [.own 6080, .pI (0 : Int)], hA 6080 36 (.pr tI (.pr tI (.pr tI (.sl (.sl tI))))) ([] : List (Int × (Int × (Int × LL)))), e6b7]⟩ : St)) (by kernel_rfl) ?_
        refine aw_ret ?_
        refine thenQ_r ?_
        exact rest1 ((1 : Int), (0 : Int), ([] : List (Int × (Int × (Int × LL))))) h
       ·have h := h.2 hb
        refine aw_skip ?_
        refine thenQ_n ?_
        refine sr ?_
        refine rqT 1 ⟨116, [e6b20, sp 3 3, e6b22, e6b29, s1 37 (.own 5006), e6b16], [e6b10 g w, e6b5, e6b42 keys, e6b7, e6b0 g w rv, e6b1 ret51v]⟩ (by kernel_rfl) ?_
        refine awl_lcall (σ := List (Int × (Int × Int))) [5006] [5006] [.c (.own 5006), .c (.fn 36 [])] [] (fun _ => .tup []) (fun srtv => [(5006, [], .arr 58 t3 srtv)]) (fun (srtv : List (Int × (Int × Int))) => Loop (σ := Int × (List ((Int × (Int × Int)) × Int))) (fun s X => VC6_l4 g w K ret51v srtv s.1 s.2 X) ((0 : Int), ([] : List ((Int × (Int × Int)) × Int)))) [(5006, [], .arr 58 t3 keys)] (fun srtv => (⟨116, [(38, [], .tup []), e6b20, sp 3 3, e6b22, e6b29, s1 37 (.own 5006), e6b16], [e6b17 srtv, e6b10 g w, e6b5, e6b7, e6b0 g w rv, e6b1 ret51v]⟩ : St)) rfl rfl (by kernel_rfl) rfl (by kernel_rfl) Try.call35 (by kernel_rfl) (by kernel_rfl) (by kernel_rfl) (fun _ _ => rfl) (fun _ => by kernel_rfl) (lcalls_sortKF Try.sort35 t3 rfl (by decide) Try.sort35a Try.sort35z 58 5006 _ _ (⟨Try.call36, fun x K h => link36 x.1 x.2 K h⟩) h) (fun srtv h => ?_)
        refine lpr (st' := (⟨116, [e6b20, sp 3 3, e6b22, e6b29, e6b16], [e6b10 g w, e6b5, e6b17 srtv, e6b7, e6b0 g w rv, e6b1 ret51v]⟩ : St)) (by kernel_rfl) ?_
        refine nsr ?_
        refine rqT 2 ⟨116, [e6b20, sp 3 3, e6b22, e6b29, e6b21, e6b16], [e6b10 g w, e6b5, e6b43, e6b17 srtv, e6b7, e6b0 g w rv, e6b1 ret51v]⟩ (by kernel_rfl) ?_
        refine nn ?_
        refine aw_seq ?_
        refine srn 3 ⟨116, [e6b20, sp 3 3, e6b22, e6b29, e6b21, e6b45, sI 41 (srtv.length : Int), sI 42 (0 : Int), e6b16], [e6b10 g w, e6b5, e6b43, e6b17 srtv, e6b7, e6b0 g w rv, e6b1 ret51v]⟩ (by kernel_rfl) rfl ?_
        refine withJoin (σ := (List ((Int × (Int × Int)) × Int))) (fun s => (⟨116, [e6b20, sp 3 3, e6b22, e6b29, e6b21, e6b16], [e6b10 g w, e6b5, (39, [], .dict t3 tI s), e6b17 srtv, e6b7, e6b0 g w rv, e6b1 ret51v]⟩ : St)) (fun s => VC6_k4 g w K ret51v srtv s) (fun number h => ?_) (fun rest5 => ?_)
        ·have h : VC6_k4 g w K ret51v srtv number := h
         unfold VC6_k4 at h
         refine thenQ_n ?_
         refine srn 6 ⟨116, [e6b20, e6b22, e6b29, e6b21, e6b32, e6b16], [e6b5, hB 11 [.nils, .pI ((mget number ((g.1 + g.2.2.1), ((0 : Int), (w.length : Int)))).getD (0 : Int))], e6b12 number, e6b17 srtv, e6b7, e6b0 g w rv, e6b1 ret51v]⟩ (by kernel_rfl) rfl ?_
         refine aw_seq ?_
         refine srn 3 ⟨116, [e6b20, e6b22, e6b21, e6b32, e6b23, e6b15 srtv, sI 57 (0 : Int), e6b16], [e6b5, hB 11 [.nils, .pI ((mget number ((g.1 + g.2.2.1), ((0 : Int), (w.length : Int)))).getD (0 : Int))], e6b12 number, e6b17 srtv, e6b7, e6b0 g w rv, e6b1 ret51v]⟩ (by kernel_rfl) rfl ?_
         refine withJoin (σ := (List (Int × (Int × (Int × LL))))) (fun s => (⟨116, [e6b22, e6b32, e6b16], [e6b5, e6b2 number g w, hA 6220 36 (.pr tI (.pr tI (.pr tI (.sl (.sl tI))))) s, e6b7]⟩ : St)) (fun s => VC6_k5 g w K number s) (fun l6220 h => ?_) (fun rest2 => ?_)
         ·have h : VC6_k5 g w K number l6220 := h
          unfold VC6_k5 at h
          refine thenQ_n ?_
          refine srn 3 ⟨116, [e6b22, sI 5 (0 : Int), e6b16], [hB 4 [.own 6220, .pI ((mget number ((g.1 + g.2.2.1), ((0 : Int), (w.length : Int)))).getD (0 : Int))], e6b3 l6220, e6b7]⟩ (by kernel_rfl) rfl ?_
          refine aw_conv [.ren 6220 26220, .ren 26220 6080] (st' := (⟨116, [e6b22, sI 5 (0 : Int), e6b16], [hB 4 [.own 6080, .pI ((mget number ((g.1 + g.2.2.1), ((0 : Int), (w.length : Int)))).getD (0 : Int))], hA 6080 36 (.pr tI (.pr tI (.pr tI (.sl (.sl tI))))) l6220, e6b7]⟩ : St)) (by kernel_rfl) ?_
          refine aw_ret ?_
          exact rest1 ((0 : Int), ((mget number ((g.1 + g.2.2.1), ((0 : Int), (w.length : Int)))).getD (0 : Int)), l6220) h
         ·refine aw_block ?_
          refine aw_conv [.nilOwnB 11 0 6220 36 (.pr tI (.pr tI (.pr tI (.sl (.sl tI))))), .prune [0, 4, 8, 11, 55, 56, 57, 120] e6bn2] (st' := (⟨116, [e6b20, e6b22, e6b21, e6b32, e6b23, e6b15 srtv, sI 57 (0 : Int), e6b16], [e6b5, e6b2 number g w, e6b12 number, e6b17 srtv, hA 6220 36 (.pr tI (.pr tI (.pr tI (.sl (.sl tI))))) ([] : List (Int × (Int × (Int × LL)))), e6b7, e6b0 g w rv, e6b1 ret51v]⟩ : St)) (by kernel_rfl) ?_
          refine aw_loop (σ := Int × (List (Int × (Int × (Int × LL))))) (fun s => (⟨116, [e6b20, e6b22, e6b21, e6b32, e6b23, e6b15 srtv, sI 57 s.1, e6b16], [e6b5, e6b2 number g w, e6b12 number, e6b17 srtv, hA 6220 36 (.pr tI (.pr tI (.pr tI (.sl (.sl tI))))) s.2, e6b7, e6b0 g w rv, e6b1 ret51v]⟩ : St)) (fun s X => VC6_l1 g w K ret51v srtv number s.1 s.2 X) (s0 := ((0 : Int), ([] : List (Int × (Int × (Int × LL)))))) (fun s X1 h => ?_) h
          obtain ⟨v57, l6220⟩ := s
          have h : VC6_l1 g w K ret51v srtv number v57 l6220 X1 := h
          unfold VC6_l1 at h
          refine srn 1 ⟨116, [e6b20, e6b22, e6b21, e6b32, e6b23, e6b15 srtv, sI 57 v57, sB 58 (decide (v57 < (srtv.length : Int))), e6b16], [e6b5, e6b2 number g w, e6b12 number, e6b17 srtv, e6b3 l6220, e6b7, e6b0 g w rv, e6b1 ret51v]⟩ (by kernel_rfl) rfl ?_
          refine aw_seq ?_
          refine aw_cond (b := (decide (v57 < (srtv.length : Int)))) (by kernel_rfl) (fun hb => ?_) (fun hb => ?_)
          ·have h := h.1 hb
           refine aw_skip ?_
           refine thenQ_n ?_
           refine aw_seq ?_
           refine aw_block ?_
           refine sr ?_
           obtain ⟨o1, h⟩ := h
           refine rq 4 (ob := (inIdx v57 srtv.length ∧ Ts 3 True)) (st' := (⟨116, [e6b20, e6b22, e6b21, e6b32, sp 13 13, e6b23, e6b15 srtv, sI 57 v57, e6b16], [e6b5, e6b2 number g w, e6b35 srtv v57, e6b12 number, e6b17 srtv, e6b3 l6220, e6b7, e6b0 g w rv, e6b1 ret51v]⟩ : St)) (by kernel_rfl) (⟨o1, tsI 3 trivial⟩) ?_
           refine nsr ?_
           refine rqT 11 ⟨116, [e6b20, e6b22, e6b21, e6b32, sp 13 13, e6b38, e6b23, e6b15 srtv, sI 57 v57, e6b16], [e6b5, e6b2 number g w, e6b35 srtv v57, e6b34 srtv v57, e6b12 number, e6b17 srtv, e6b3 l6220, e6b7, e6b0 g w rv, e6b1 ret51v]⟩ (by kernel_rfl) ?_
           refine nn ?_
           refine aw_seq ?_
           refine aw_seq ?_
           refine awd_begin [] (by kernel_rfl) ?_
           refine drq (by kernel_rfl) [0, 1, 2, 3, 4, 5, 6, 7] (ob := (Ts 8 True)) (done' := [7, 6, 5, 4, 3, 2, 1, 0]) (st' := (⟨116, [e6b20, e6b22, e6b21, e6b32, e6b38, e6b23, e6b15 srtv, sI 57 v57, e6b6 ret51v srtv v57, e6b9 ret51v srtv v57, sI 77 (0 : Int), e6b16], [e6b5, e6b2 number g w, e6b34 srtv v57, e6b12 number, e6b17 srtv, e6b3 l6220, e6b7, e6b0 g w rv, e6b1 ret51v]⟩ : St)) (by kernel_rfl) (tsI 8 trivial) ?_
           refine awd_done (by kernel_rfl) ?_
           refine thenQ_n ?_
           refine withJoin (σ := LL) (fun s => (⟨116, [e6b20, e6b22, e6b21, e6b32, e6b38, e6b23, e6b15 srtv, sI 57 v57, e6b16], [e6b5, e6b2 number g w, e6b4 srtv v57, e6b12 number, e6b17 srtv, e6b3 l6220, hA 6283 25 (.sl tI) s, e6b7, e6b0 g w rv, e6b1 ret51v]⟩ : St)) (fun s => VC6_k6 K srtv v57 l6220 X1 s) (fun l6283 h => ?_) (fun rest3 => ?_)
           ·have h : VC6_k6 K srtv v57 l6220 X1 l6283 := h
            unfold VC6_k6 at h
            refine thenQ_n ?_
            refine sr ?_
            refine rqT 2 ⟨116, [e6b20, e6b22, e6b21, e6b32, e6b38, e6b23, e6b15 srtv, sI 57 v57, s1 106 (.own 6283), e6b16], [e6b5, e6b2 number g w, e6b4 srtv v57, e6b12 number, e6b17 srtv, e6b3 l6220, e6b24 l6283, e6b7, e6b0 g w rv, e6b1 ret51v]⟩ (by kernel_rfl) ?_
            refine awl_lcall (σ := List LI) [6283] [6283] [.c (.own 6283), .c (.fn 40 [])] [] (fun _ => .tup []) (fun srtv2 => [(6283, [], .arr 25 (.sl tI) srtv2)]) (fun (srtv2 : List LI) => (roomN (l6220.length + [((srtv.getD ((v57).toNat) z3).1, ((srtv.getD ((v57).toNat) z3).2.1, ((srtv.getD ((v57).toNat) z3).2.2, srtv2)))].length) ∧ (InR (v57 + (1 : Int)) ∧ X1 ((v57 + (1 : Int)), (l6220 ++ [((srtv.getD ((v57).toNat) z3).1, ((srtv.getD ((v57).toNat) z3).2.1, ((srtv.getD ((v57).toNat) z3).2.2, srtv2)))]))))) [(6283, [], .arr 25 (.sl tI) l6283)] (fun srtv2 => (⟨116, [(107, [], .tup []), e6b20, e6b22, e6b21, e6b32, e6b38, e6b23, e6b15 srtv, sI 57 v57, s1 106 (.own 6283), e6b16], [hA 6283 25 (.sl tI) srtv2, e6b5, e6b2 number g w, e6b4 srtv v57, e6b12 number, e6b17 srtv, e6b3 l6220, e6b7, e6b0 g w rv, e6b1 ret51v]⟩ : St)) rfl rfl (by kernel_rfl) rfl (by kernel_rfl) Try.call39 (by kernel_rfl) (by kernel_rfl) (by kernel_rfl) (fun _ _ => rfl) (fun _ => by kernel_rfl) (lcalls_sortF Try.sort39 (.sl tI) rfl 25 6283 _ _ (⟨Try.call40, fun x K h => link40 x.1 x.2 K h⟩) h) (fun srtv2 h => ?_)
            refine lpr (st' := (⟨116, [e6b20, e6b22, e6b21, e6b32, e6b38, e6b23, e6b15 srtv, sI 57 v57, e6b16], [e6b5, e6b2 number g w, e6b4 srtv v57, e6b12 number, e6b17 srtv, e6b3 l6220, hA 6283 25 (.sl tI) srtv2, e6b7, e6b0 g w rv, e6b1 ret51v]⟩ : St)) (by kernel_rfl) ?_
            refine nn ?_
            refine aw_region ?_
            refine rqT 3 ⟨116, [e6b20, e6b22, e6b21, e6b32, e6b23, e6b15 srtv, sI 57 v57, s1 109 (.own 6220), sA 110 [.pI ((srtv.getD ((v57).toNat) z3).1), .pI ((srtv.getD ((v57).toNat) z3).2.1), .pI ((srtv.getD ((v57).toNat) z3).2.2), .own 6283], e6b16], [e6b5, e6b2 number g w, e6b12 number, e6b17 srtv, e6b3 l6220, hA 6283 25 (.sl tI) srtv2, e6b7, e6b0 g w rv, e6b1 ret51v]⟩ (by kernel_rfl) ?_
            refine awl_conv [.freeze 6283] (st' := (⟨116, [e6b20, e6b22, e6b21, e6b32, e6b23, e6b15 srtv, sI 57 v57, s1 109 (.own 6220), sA 110 [.pI ((srtv.getD ((v57).toNat) z3).1), .pI ((srtv.getD ((v57).toNat) z3).2.1), .pI ((srtv.getD ((v57).toNat) z3).2.2), .p (.sl (.sl tI)) srtv2], e6b16], [e6b5, e6b2 number g w, e6b12 number, e6b17 srtv, e6b3 l6220, e6b7, e6b0 g w rv, e6b1 ret51v]⟩ : St)) (by kernel_rfl) ?_
            obtain ⟨o1, h⟩ := h
            refine rq 4 (ob := (Ts 1 (roomN (l6220.length + [((srtv.getD ((v57).toNat) z3).1, ((srtv.getD ((v57).toNat) z3).2.1, ((srtv.getD ((v57).toNat) z3).2.2, srtv2)))].length) ∧ Ts 2 True))) (st' := (⟨116, [e6b20, e6b22, e6b21, e6b32, e6b23, e6b15 srtv, sI 57 v57, e6b16], [e6b5, hB 11 [.own 112, .pI ((mget number ((g.1 + g.2.2.1), ((0 : Int), (w.length : Int)))).getD (0 : Int))], e6b12 number, e6b28 l6220 srtv v57 srtv2, e6b17 srtv, e6b7, e6b0 g w rv, e6b1 ret51v]⟩ : St)) (by kernel_rfl) (tsI 1 ⟨o1, tsI 2 trivial⟩) ?_
            refine awl_nil ?_
            refine blockQ_n ?_
            refine thenQ_n ?_
            refine aw_region ?_
            obtain ⟨o1, h⟩ := h
            refine rq 2 (ob := (InR (v57 + (1 : Int)) ∧ Ts 1 True)) (st' := (⟨116, [e6b20, e6b22, e6b21, e6b32, e6b23, e6b15 srtv, sI 57 (v57 + (1 : Int)), e6b16], [e6b5, hB 11 [.own 112, .pI ((mget number ((g.1 + g.2.2.1), ((0 : Int), (w.length : Int)))).getD (0 : Int))], e6b12 number, e6b28 l6220 srtv v57 srtv2, e6b17 srtv, e6b7, e6b0 g w rv, e6b1 ret51v]⟩ : St)) (by kernel_rfl) (⟨o1, tsI 1 trivial⟩) ?_
            refine awl_conv [.ren 112 20112, .ren 20112 6220, .prune [0, 4, 8, 11, 55, 56, 57, 120] e6bn2] (st' := (⟨116, [e6b20, e6b22, e6b21, e6b32, e6b23, e6b15 srtv, sI 57 (v57 + (1 : Int)), e6b16], [e6b5, e6b2 number g w, e6b12 number, e6b17 srtv, hA 6220 36 (.pr tI (.pr tI (.pr tI (.sl (.sl tI))))) (l6220 ++ [((srtv.getD ((v57).toNat) z3).1, ((srtv.getD ((v57).toNat) z3).2.1, ((srtv.getD ((v57).toNat) z3).2.2, srtv2)))]), e6b7, e6b0 g w rv, e6b1 ret51v]⟩ : St)) (by kernel_rfl) ?_
            refine awl_nil ?_
            exact thenQ_n ⟨((v57 + (1 : Int)), (l6220 ++ [((srtv.getD ((v57).toNat) z3).1, ((srtv.getD ((v57).toNat) z3).2.1, ((srtv.getD ((v57).toNat) z3).2.2, srtv2)))])), rfl, h⟩
           ·refine aw_block ?_
            refine aw_conv [.nilOwnB 14 3 6283 25 (.sl tI), .prune e6bn1 e6bn0] (st' := (⟨116, [e6b20, e6b22, e6b21, e6b32, e6b38, e6b23, e6b15 srtv, sI 57 v57, e6b6 ret51v srtv v57, e6b9 ret51v srtv v57, sI 77 (0 : Int), e6b16], [e6b5, e6b2 number g w, e6b4 srtv v57, e6b12 number, e6b17 srtv, e6b3 l6220, hA 6283 25 (.sl tI) ([] : List LI), e6b7, e6b0 g w rv, e6b1 ret51v]⟩ : St)) (by kernel_rfl) ?_
            refine aw_loop (σ := Int × LL) (fun s => (⟨116, [e6b20, e6b22, e6b21, e6b32, e6b38, e6b23, e6b15 srtv, sI 57 v57, e6b6 ret51v srtv v57, e6b9 ret51v srtv v57, sI 77 s.1, e6b16], [e6b5, e6b2 number g w, e6b4 srtv v57, e6b12 number, e6b17 srtv, e6b3 l6220, hA 6283 25 (.sl tI) s.2, e6b7, e6b0 g w rv, e6b1 ret51v]⟩ : St)) (fun s X => VC6_l2 K ret51v srtv number v57 l6220 X1 s.1 s.2 X) (s0 := ((0 : Int), ([] : List LI))) (fun s X2 h => ?_) h
            obtain ⟨v77, l6283⟩ := s
            have h : VC6_l2 K ret51v srtv number v57 l6220 X1 v77 l6283 X2 := h
            unfold VC6_l2 at h
            refine srn 1 ⟨116, [e6b20, e6b22, e6b21, e6b32, e6b38, e6b23, e6b15 srtv, sI 57 v57, e6b6 ret51v srtv v57, e6b9 ret51v srtv v57, sI 77 v77, sB 78 (decide (v77 < (((mget ret51v (srtv.getD ((v57).toNat) z3)).getD ([] : (List (Int × LN)))).length : Int))), e6b16], [e6b5, e6b2 number g w, e6b4 srtv v57, e6b12 number, e6b17 srtv, e6b3 l6220, e6b24 l6283, e6b7, e6b0 g w rv, e6b1 ret51v]⟩ (by kernel_rfl) rfl ?_
            refine aw_seq ?_
            refine aw_cond (b := (decide (v77 < (((mget ret51v (srtv.getD ((v57).toNat) z3)).getD ([] : (List (Int × LN)))).length : Int)))) (by kernel_rfl) (fun hb => ?_) (fun hb => ?_)
            ·have h := h.1 hb
             refine aw_skip ?_
             refine thenQ_n ?_
             refine aw_seq ?_
             refine aw_block ?_
             refine sr ?_
             obtain ⟨o1, h⟩ := h
             refine rq 4 (ob := (inIdx v77 ((mget ret51v (srtv.getD ((v57).toNat) z3)).getD ([] : (List (Int × LN)))).length ∧ Ts 3 True)) (st' := (⟨116, [e6b20, e6b22, e6b21, e6b32, e6b38, sp 16 16, e6b23, e6b15 srtv, sI 57 v57, e6b6 ret51v srtv v57, e6b9 ret51v srtv v57, sI 77 v77, e6b16], [e6b5, e6b2 number g w, e6b4 srtv v57, e6b25 ret51v srtv v57 v77, e6b12 number, e6b17 srtv, e6b3 l6220, e6b24 l6283, e6b7, e6b0 g w rv, e6b1 ret51v]⟩ : St)) (by kernel_rfl) (⟨o1, tsI 3 trivial⟩) ?_
             refine nsr ?_
             refine rqT 4 ⟨116, [e6b20, e6b22, e6b21, e6b32, e6b38, sp 16 16, e6b44, e6b23, e6b15 srtv, sI 57 v57, e6b6 ret51v srtv v57, e6b9 ret51v srtv v57, sI 77 v77, e6b16], [e6b5, e6b2 number g w, e6b4 srtv v57, e6b25 ret51v srtv v57 v77, e6b12 number, hA 83 3 tI [(((mget ret51v (srtv.getD ((v57).toNat) z3)).getD ([] : (List (Int × LN)))).getD (v77).toNat ((0 : Int), ([] : LN))).1], e6b17 srtv, e6b3 l6220, e6b24 l6283, e6b7, e6b0 g w rv, e6b1 ret51v]⟩ (by kernel_rfl) ?_
             refine nn ?_
             refine aw_seq ?_
             refine srn 4 ⟨116, [e6b20, e6b22, e6b21, e6b32, e6b38, e6b44, e6b23, e6b15 srtv, sI 57 v57, e6b6 ret51v srtv v57, e6b9 ret51v srtv v57, sI 77 v77, e6b14 ret51v srtv v57 v77, e6b13 ret51v srtv v57 v77, sI 87 (0 : Int), e6b16], [e6b5, e6b2 number g w, e6b4 srtv v57, e6b12 number, hA 83 3 tI [(((mget ret51v (srtv.getD ((v57).toNat) z3)).getD ([] : (List (Int × LN)))).getD (v77).toNat ((0 : Int), ([] : LN))).1], e6b17 srtv, e6b3 l6220, e6b24 l6283, e6b7, e6b0 g w rv, e6b1 ret51v]⟩ (by kernel_rfl) rfl ?_
             refine withJoin (σ := LI) (fun s => (⟨116, [e6b20, e6b22, e6b21, e6b32, e6b38, e6b44, e6b23, e6b15 srtv, sI 57 v57, e6b6 ret51v srtv v57, e6b9 ret51v srtv v57, sI 77 v77, e6b16], [e6b5, e6b2 number g w, e6b4 srtv v57, e6b12 number, hA 83 3 tI s, e6b17 srtv, e6b3 l6220, e6b24 l6283, e6b7, e6b0 g w rv, e6b1 ret51v]⟩ : St)) (fun s => VC6_k7 v77 l6283 X2 s) (fun row h => ?_) (fun rest4 => ?_)
             ·have h : VC6_k7 v77 l6283 X2 row := h
              unfold VC6_k7 at h
              refine thenQ_n ?_
              refine aw_region ?_
              refine rqT 3 ⟨116, [e6b20, e6b22, e6b21, e6b32, e6b38, e6b23, e6b15 srtv, sI 57 v57, e6b6 ret51v srtv v57, e6b9 ret51v srtv v57, sI 77 v77, s1 99 (.own 6283), s1 100 (.own 83), e6b16], [e6b5, e6b2 number g w, e6b4 srtv v57, e6b12 number, hA 83 3 tI row, e6b17 srtv, e6b3 l6220, e6b24 l6283, e6b7, e6b0 g w rv, e6b1 ret51v]⟩ (by kernel_rfl) ?_
              refine awl_conv [.freeze 83] (st' := (⟨116, [e6b20, e6b22, e6b21, e6b32, e6b38, e6b23, e6b15 srtv, sI 57 v57, e6b6 ret51v srtv v57, e6b9 ret51v srtv v57, sI 77 v77, s1 99 (.own 6283), s1 100 (.pS row), e6b16], [e6b5, e6b2 number g w, e6b4 srtv v57, e6b12 number, e6b17 srtv, e6b3 l6220, e6b24 l6283, e6b7, e6b0 g w rv, e6b1 ret51v]⟩ : St)) (by kernel_rfl) ?_
              obtain ⟨o1, h⟩ := h
              refine rq 4 (ob := (Ts 1 (roomN (l6283.length + [row].length) ∧ Ts 2 True))) (st' := (⟨116, [e6b20, e6b22, e6b21, e6b32, e6b38, e6b23, e6b15 srtv, sI 57 v57, e6b6 ret51v srtv v57, e6b9 ret51v srtv v57, sI 77 v77, e6b16], [e6b5, e6b2 number g w, e6b33 srtv v57, e6b12 number, hA 102 25 (.sl tI) (l6283 ++ [row]), e6b17 srtv, e6b3 l6220, e6b7, e6b0 g w rv, e6b1 ret51v]⟩ : St)) (by kernel_rfl) (tsI 1 ⟨o1, tsI 2 trivial⟩) ?_
              refine awl_nil ?_
              refine blockQ_n ?_
              refine thenQ_n ?_
              refine aw_region ?_
              obtain ⟨o1, h⟩ := h
              refine rq 2 (ob := (InR (v77 + (1 : Int)) ∧ Ts 1 True)) (st' := (⟨116, [e6b20, e6b22, e6b21, e6b32, e6b38, e6b23, e6b15 srtv, sI 57 v57, e6b6 ret51v srtv v57, e6b9 ret51v srtv v57, sI 77 (v77 + (1 : Int)), e6b16], [e6b5, e6b2 number g w, e6b33 srtv v57, e6b12 number, hA 102 25 (.sl tI) (l6283 ++ [row]), e6b17 srtv, e6b3 l6220, e6b7, e6b0 g w rv, e6b1 ret51v]⟩ : St)) (by kernel_rfl) (⟨o1, tsI 1 trivial⟩) ?_
              refine awl_conv [.ren 102 20102, .ren 20102 6283, .prune e6bn1 e6bn0] (st' := (⟨116, [e6b20, e6b22, e6b21, e6b32, e6b38, e6b23, e6b15 srtv, sI 57 v57, e6b6 ret51v srtv v57, e6b9 ret51v srtv v57, sI 77 (v77 + (1 : Int)), e6b16], [e6b5, e6b2 number g w, e6b4 srtv v57, e6b12 number, e6b17 srtv, e6b3 l6220, hA 6283 25 (.sl tI) (l6283 ++ [row]), e6b7, e6b0 g w rv, e6b1 ret51v]⟩ : St)) (by kernel_rfl) ?_
              refine awl_nil ?_
              exact thenQ_n ⟨((v77 + (1 : Int)), (l6283 ++ [row])), rfl, h⟩
             ·refine aw_block ?_
              refine aw_loop (σ := Int × LI) (fun s => (⟨116, [e6b20, e6b22, e6b21, e6b32, e6b38, e6b44, e6b23, e6b15 srtv, sI 57 v57, e6b6 ret51v srtv v57, e6b9 ret51v srtv v57, sI 77 v77, e6b14 ret51v srtv v57 v77, e6b13 ret51v srtv v57 v77, sI 87 s.1, e6b16], [e6b5, e6b2 number g w, e6b4 srtv v57, e6b12 number, hA 83 3 tI s.2, e6b17 srtv, e6b3 l6220, e6b24 l6283, e6b7, e6b0 g w rv, e6b1 ret51v]⟩ : St)) (fun s X => VC6_l3 ret51v srtv number v57 v77 l6283 X2 s.1 s.2 X) (s0 := ((0 : Int), [(((mget ret51v (srtv.getD ((v57).toNat) z3)).getD ([] : (List (Int × LN)))).getD (v77).toNat ((0 : Int), ([] : LN))).1])) (fun s X3 h => ?_) h
              obtain ⟨v87, row⟩ := s
              have h : VC6_l3 ret51v srtv number v57 v77 l6283 X2 v87 row X3 := h
              unfold VC6_l3 at h
              refine srn 1 ⟨116, [e6b20, e6b22, e6b21, e6b32, e6b38, e6b44, e6b23, e6b15 srtv, sI 57 v57, e6b6 ret51v srtv v57, e6b9 ret51v srtv v57, sI 77 v77, e6b14 ret51v srtv v57 v77, e6b13 ret51v srtv v57 v77, sI 87 v87, sB 88 (decide (v87 < (((((mget ret51v (srtv.getD ((v57).toNat) z3)).getD ([] : (List (Int × LN)))).getD (v77).toNat ((0 : Int), ([] : LN))).2).length : Int))), e6b16], [e6b5, e6b2 number g w, e6b4 srtv v57, e6b12 number, hA 83 3 tI row, e6b17 srtv, e6b3 l6220, e6b24 l6283, e6b7, e6b0 g w rv, e6b1 ret51v]⟩ (by kernel_rfl) rfl ?_
              refine aw_seq ?_
              refine aw_cond (b := (decide (v87 < (((((mget ret51v (srtv.getD ((v57).toNat) z3)).getD ([] : (List (Int × LN)))).getD (v77).toNat ((0 : Int), ([] : LN))).2).length : Int)))) (by kernel_rfl) (fun hb => ?_) (fun hb => ?_)
              ·have h := h.1 hb
               refine aw_skip ?_
               refine thenQ_n ?_
               refine aw_seq ?_
               refine aw_block ?_
               refine sr ?_
               obtain ⟨o1, h⟩ := h
               refine rq 4 (ob := (inIdx v87 ((((mget ret51v (srtv.getD ((v57).toNat) z3)).getD ([] : (List (Int × LN)))).getD (v77).toNat ((0 : Int), ([] : LN))).2).length ∧ Ts 3 True)) (st' := (⟨116, [e6b20, e6b22, e6b21, e6b32, e6b38, e6b44, sp 19 19, e6b23, e6b15 srtv, sI 57 v57, e6b6 ret51v srtv v57, e6b9 ret51v srtv v57, sI 77 v77, e6b14 ret51v srtv v57 v77, e6b13 ret51v srtv v57 v77, sI 87 v87, e6b16], [e6b5, e6b2 number g w, e6b4 srtv v57, hB 19 [.pI ((((((mget ret51v (srtv.getD ((v57).toNat) z3)).getD ([] : (List (Int × LN)))).getD (v77).toNat ((0 : Int), ([] : LN))).2).getD (v87).toNat z3).1), .pI ((((((mget ret51v (srtv.getD ((v57).toNat) z3)).getD ([] : (List (Int × LN)))).getD (v77).toNat ((0 : Int), ([] : LN))).2).getD (v87).toNat z3).2.1), .pI ((((((mget ret51v (srtv.getD ((v57).toNat) z3)).getD ([] : (List (Int × LN)))).getD (v77).toNat ((0 : Int), ([] : LN))).2).getD (v87).toNat z3).2.2)], e6b12 number, hA 83 3 tI row, e6b17 srtv, e6b3 l6220, e6b24 l6283, e6b7, e6b0 g w rv, e6b1 ret51v]⟩ : St)) (by kernel_rfl) (⟨o1, tsI 3 trivial⟩) ?_
               refine nn ?_
               refine aw_region ?_
               obtain ⟨o1, h⟩ := h
               refine rq 7 (ob := (Ts 5 (roomN (row.length + [((mget number (((((mget ret51v (srtv.getD ((v57).toNat) z3)).getD ([] : (List (Int × LN)))).getD (v77).toNat ((0 : Int), ([] : LN))).2).getD (v87).toNat z3)).getD (0 : Int))].length) ∧ Ts 1 True))) (st' := (⟨116, [e6b20, e6b22, e6b21, e6b32, e6b38, s1 17 (.own 96), e6b23, e6b15 srtv, sI 57 v57, e6b6 ret51v srtv v57, e6b9 ret51v srtv v57, sI 77 v77, e6b14 ret51v srtv v57 v77, e6b13 ret51v srtv v57 v77, sI 87 v87, e6b16], [e6b5, e6b2 number g w, e6b4 srtv v57, e6b12 number, hA 96 3 tI (row ++ [((mget number (((((mget ret51v (srtv.getD ((v57).toNat) z3)).getD ([] : (List (Int × LN)))).getD (v77).toNat ((0 : Int), ([] : LN))).2).getD (v87).toNat z3)).getD (0 : Int))]), e6b17 srtv, e6b3 l6220, e6b24 l6283, e6b7, e6b0 g w rv, e6b1 ret51v]⟩ : St)) (by kernel_rfl) (tsI 5 ⟨o1, tsI 1 trivial⟩) ?_
               refine awl_nil ?_
               refine blockQ_n ?_
               refine thenQ_n ?_
               refine aw_region ?_
               obtain ⟨o1, h⟩ := h
               refine rq 2 (ob := (InR (v87 + (1 : Int)) ∧ Ts 1 True)) (st' := (⟨116, [e6b20, e6b22, e6b21, e6b32, e6b38, s1 17 (.own 96), e6b23, e6b15 srtv, sI 57 v57, e6b6 ret51v srtv v57, e6b9 ret51v srtv v57, sI 77 v77, e6b14 ret51v srtv v57 v77, e6b13 ret51v srtv v57 v77, sI 87 (v87 + (1 : Int)), e6b16], [e6b5, e6b2 number g w, e6b4 srtv v57, e6b12 number, hA 96 3 tI (row ++ [((mget number (((((mget ret51v (srtv.getD ((v57).toNat) z3)).getD ([] : (List (Int × LN)))).getD (v77).toNat ((0 : Int), ([] : LN))).2).getD (v87).toNat z3)).getD (0 : Int))]), e6b17 srtv, e6b3 l6220, e6b24 l6283, e6b7, e6b0 g w rv, e6b1 ret51v]⟩ : St)) (by kernel_rfl) (⟨o1, tsI 1 trivial⟩) ?_
               refine awl_conv [.ren 96 20096, .ren 20096 83] (st' := (⟨116, [e6b20, e6b22, e6b21, e6b32, e6b38, e6b44, e6b23, e6b15 srtv, sI 57 v57, e6b6 ret51v srtv v57, e6b9 ret51v srtv v57, sI 77 v77, e6b14 ret51v srtv v57 v77, e6b13 ret51v srtv v57 v77, sI 87 (v87 + (1 : Int)), e6b16], [e6b5, e6b2 number g w, e6b4 srtv v57, e6b12 number, hA 83 3 tI (row ++ [((mget number (((((mget ret51v (srtv.getD ((v57).toNat) z3)).getD ([] : (List (Int × LN)))).getD (v77).toNat ((0 : Int), ([] : LN))).2).getD (v87).toNat z3)).getD (0 : Int))]), e6b17 srtv, e6b3 l6220, e6b24 l6283, e6b7, e6b0 g w rv, e6b1 ret51v]⟩ : St)) (by kernel_rfl) ?_
               refine awl_nil ?_
               exact thenQ_n ⟨((v87 + (1 : Int)), (row ++ [((mget number (((((mget ret51v (srtv.getD ((v57).toNat) z3)).getD ([] : (List (Int × LN)))).getD (v77).toNat ((0 : Int), ([] : LN))).2).getD (v87).toNat z3)).getD (0 : Int))])), rfl, h⟩
              ·have h := h.2 hb
               refine cpr (st' := (⟨116, [e6b20, e6b22, e6b21, e6b32, e6b38, e6b44, e6b23, e6b15 srtv, sI 57 v57, e6b6 ret51v srtv v57, e6b9 ret51v srtv v57, sI 77 v77, e6b16], [e6b5, e6b2 number g w, e6b4 srtv v57, e6b12 number, hA 83 3 tI row, e6b17 srtv, e6b3 l6220, e6b24 l6283, e6b7, e6b0 g w rv, e6b1 ret51v]⟩ : St)) (by kernel_rfl) ?_
               refine aw_exit ?_
               refine thenQ_x ?_
               refine thenQ_x ?_
               refine blockQ_hit ?_
               exact rest4 row h
            ·have h := h.2 hb
             refine cpr (st' := (⟨116, [e6b20, e6b22, e6b21, e6b32, e6b38, e6b23, e6b15 srtv, sI 57 v57, e6b16], [e6b5, e6b2 number g w, e6b4 srtv v57, e6b12 number, e6b17 srtv, e6b3 l6220, e6b24 l6283, e6b7, e6b0 g w rv, e6b1 ret51v]⟩ : St)) (by kernel_rfl) ?_
             refine aw_exit ?_
             refine thenQ_x ?_
             refine thenQ_x ?_
             refine blockQ_hit ?_
             exact rest3 l6283 h
          ·have h := h.2 hb
           refine cpr (st' := (⟨116, [e6b22, e6b32, e6b16], [e6b5, e6b2 number g w, e6b3 l6220, e6b7]⟩ : St)) (by kernel_rfl) ?_
           refine aw_exit ?_
           refine thenQ_x ?_
           refine thenQ_x ?_
           refine blockQ_hit ?_
           exact rest2 l6220 h
        ·refine aw_block ?_
         refine aw_loop (σ := Int × (List ((Int × (Int × Int)) × Int))) (fun s => (⟨116, [e6b20, sp 3 3, e6b22, e6b29, e6b21, e6b45, sI 41 (srtv.length : Int), sI 42 s.1, e6b16], [e6b10 g w, e6b5, (39, [], .dict t3 tI s.2), e6b17 srtv, e6b7, e6b0 g w rv, e6b1 ret51v]⟩ : St)) (fun s X => VC6_l4 g w K ret51v srtv s.1 s.2 X) (s0 := ((0 : Int), ([] : List ((Int × (Int × Int)) × Int)))) (fun s X4 h => ?_) h
         obtain ⟨v42, number⟩ := s
         have h : VC6_l4 g w K ret51v srtv v42 number X4 := h
         unfold VC6_l4 at h
         refine srn 1 ⟨116, [e6b20, sp 3 3, e6b22, e6b29, e6b21, e6b45, sI 41 (srtv.length : Int), sI 42 v42, sB 43 (decide (v42 < (srtv.length : Int))), e6b16], [e6b10 g w, e6b5, e6b12 number, e6b17 srtv, e6b7, e6b0 g w rv, e6b1 ret51v]⟩ (by kernel_rfl) rfl ?_
         refine aw_seq ?_
         refine aw_cond (b := (decide (v42 < (srtv.length : Int)))) (by kernel_rfl) (fun hb => ?_) (fun hb => ?_)
         ·have h := h.1 hb
          refine aw_skip ?_
          refine thenQ_n ?_
          refine aw_seq ?_
          refine aw_block ?_
          refine sr ?_
          obtain ⟨o1, h⟩ := h
          refine rq 6 (ob := (Ts 1 (inIdx v42 srtv.length ∧ Ts 4 True))) (st' := (⟨116, [e6b20, sp 3 3, e6b22, e6b29, e6b21, sI 9 v42, sp 10 10, e6b45, sI 41 (srtv.length : Int), sI 42 v42, e6b16], [e6b10 g w, e6b5, hB 10 [.pI ((srtv.getD ((v42).toNat) z3).1), .pI ((srtv.getD ((v42).toNat) z3).2.1), .pI ((srtv.getD ((v42).toNat) z3).2.2)], e6b12 number, e6b17 srtv, e6b7, e6b0 g w rv, e6b1 ret51v]⟩ : St)) (by kernel_rfl) (tsI 1 ⟨o1, tsI 4 trivial⟩) ?_
          refine nn ?_
          refine aw_region ?_
          refine rqT 4 ⟨116, [e6b20, sp 3 3, e6b22, e6b29, e6b21, e6b45, sI 41 (srtv.length : Int), sI 42 v42, e6b16], [e6b10 g w, e6b5, (39, [], .dict t3 tI (mset number (srtv.getD ((v42).toNat) z3) v42)), e6b17 srtv, e6b7, e6b0 g w rv, e6b1 ret51v]⟩ (by kernel_rfl) ?_
          refine awl_nil ?_
          refine blockQ_n ?_
          refine thenQ_n ?_
          refine aw_region ?_
          obtain ⟨o1, h⟩ := h
          refine rq 2 (ob := (InR (v42 + (1 : Int)) ∧ Ts 1 True)) (st' := (⟨116, [e6b20, sp 3 3, e6b22, e6b29, e6b21, e6b45, sI 41 (srtv.length : Int), sI 42 (v42 + (1 : Int)), e6b16], [e6b10 g w, e6b5, (39, [], .dict t3 tI (mset number (srtv.getD ((v42).toNat) z3) v42)), e6b17 srtv, e6b7, e6b0 g w rv, e6b1 ret51v]⟩ : St)) (by kernel_rfl) (⟨o1, tsI 1 trivial⟩) ?_
          refine awl_nil ?_
          exact thenQ_n ⟨((v42 + (1 : Int)), (mset number (srtv.getD ((v42).toNat) z3) v42)), rfl, h⟩
         ·have h := h.2 hb
          refine cpr (st' := (⟨116, [e6b20, sp 3 3, e6b22, e6b29, e6b21, e6b16], [e6b10 g w, e6b5, e6b12 number, e6b17 srtv, e6b7, e6b0 g w rv, e6b1 ret51v]⟩ : St)) (by kernel_rfl) ?_
          refine aw_exit ?_
          refine thenQ_x ?_
          refine thenQ_x ?_
          refine blockQ_hit ?_
          exact rest5 number h
      ·refine aw_block ?_
       refine aw_conv [.nilOwn 6 5006 58 t3, .prune [0, 3, 4, 6, 24, 120] [3, 4, 24, 5006, 30000, 70000, 70001]] (st' := (⟨116, [e6b20, sp 3 3, e6b22, e6b29, sp 24 24, e6b16], [e6b10 g w, e6b5, (24, [], .mit (.own 70001) ret51v.length ([] : List Nat)), hA 5006 58 t3 ([] : List (Int × (Int × Int))), e6b7, e6b0 g w rv, e6b1 ret51v]⟩ : St)) (by kernel_rfl) ?_
       refine aw_loop (σ := (List Nat) × LN) (fun s => (⟨116, [e6b20, sp 3 3, e6b22, e6b29, sp 24 24, e6b16], [e6b10 g w, e6b5, (24, [], .mit (.own 70001) ret51v.length s.1), hA 5006 58 t3 s.2, e6b7, e6b0 g w rv, e6b1 ret51v]⟩ : St)) (fun s X => VC6_l5 g w K ret51v s.1 s.2 X) (s0 := (([] : List Nat), ([] : List (Int × (Int × Int))))) (fun s X5 h => ?_) h
       obtain ⟨l24, keys⟩ := s
       have h : VC6_l5 g w K ret51v l24 keys X5 := h
       unfold VC6_l5 at h
       refine sr ?_
       refine awl_next (t := 24) (d := 25) (q := 70001) (r := 24) (n := ret51v.length) (k := t3) (v := (.sl (.pr tI (.sl t3)))) (l := ret51v) (seen := l24) rfl rfl rfl (by kernel_rfl) (by kernel_rfl) (by kernel_rfl) (by kernel_rfl) rfl (fun j25 hj1 hj2 => ?_) (fun hall => ?_)
       ·have h := h.1 j25 hj1 hj2
        refine lpr (st' := (⟨116, [e6b20, sp 3 3, e6b22, e6b29, sp 24 24, (25, [], .tup [.c (.pB true), .c (.any), .c (.any)]), e6b16], [e6b10 g w, e6b5, e6b30 ret51v l24 j25, e6b42 keys, e6b7, e6b0 g w rv, e6b1 ret51v]⟩ : St)) (by kernel_rfl) ?_
        refine rqT 1 ⟨116, [e6b20, sp 3 3, e6b22, e6b29, sp 24 24, sB 26 true, e6b16], [e6b10 g w, e6b5, e6b30 ret51v l24 j25, e6b42 keys, e6b7, e6b0 g w rv, e6b1 ret51v]⟩ (by kernel_rfl) ?_
        refine nn ?_
        refine aw_seq ?_
        refine aw_cond (b := true) (by kernel_rfl) (fun _ => ?_) (fun hb => by cases hb)
        refine aw_skip ?_
        refine thenQ_n ?_
        refine aw_block ?_
        refine sr ?_
        obtain ⟨hi, h⟩ := h
        refine awl_entry (t := 24) (d := 27) (q := 70001) (r := 24) (n := ret51v.length) (k := t3) (v := (.sl (.pr tI (.sl t3)))) (l := ret51v) (i := j25) (seen := l24) (z3, ([] : (List (Int × LN)))) rfl rfl rfl (by kernel_rfl) (by kernel_rfl) (by kernel_rfl) (by kernel_rfl) rfl hi ?_
        refine lpr (st' := (⟨116, [e6b20, sp 3 3, e6b22, e6b29, sp 24 24, (27, [], .tup [.agg [.pI ((ret51v.getD j25 (z3, ([] : (List (Int × LN))))).1.1), .pI ((ret51v.getD j25 (z3, ([] : (List (Int × LN))))).1.2.1), .pI ((ret51v.getD j25 (z3, ([] : (List (Int × LN))))).1.2.2)], .c (.p (.sl (.pr tI (.sl t3))) ((ret51v.getD j25 (z3, ([] : (List (Int × LN))))).2))]), e6b16], [e6b10 g w, e6b5, e6b30 ret51v l24 j25, e6b42 keys, e6b7, e6b0 g w rv, e6b1 ret51v]⟩ : St)) (by kernel_rfl) ?_
        refine rqT 3 ⟨116, [e6b20, sp 3 3, e6b22, e6b29, sp 7 7, sp 24 24, e6b16], [e6b10 g w, e6b5, hB 7 [.pI ((ret51v.getD j25 (z3, ([] : (List (Int × LN))))).1.1), .pI ((ret51v.getD j25 (z3, ([] : (List (Int × LN))))).1.2.1), .pI ((ret51v.getD j25 (z3, ([] : (List (Int × LN))))).1.2.2)], e6b30 ret51v l24 j25, e6b42 keys, e6b7, e6b0 g w rv, e6b1 ret51v]⟩ (by kernel_rfl) ?_
        refine nn ?_
        refine aw_region ?_
        obtain ⟨o1, h⟩ := h
        refine rq 5 (ob := (Ts 3 (roomN (keys.length + [(ret51v.getD j25 (z3, ([] : (List (Int × LN))))).1].length) ∧ Ts 1 True))) (st' := (⟨116, [e6b20, sp 3 3, e6b22, s1 6 (.own 32), sp 24 24, e6b16], [e6b10 g w, e6b5, e6b30 ret51v l24 j25, hA 32 58 t3 (keys ++ [(ret51v.getD j25 (z3, ([] : (List (Int × LN))))).1]), e6b7, e6b0 g w rv, e6b1 ret51v]⟩ : St)) (by kernel_rfl) (tsI 3 ⟨o1, tsI 1 trivial⟩) ?_
        refine awl_conv [.ren 32 20032, .ren 20032 5006] (st' := (⟨116, [e6b20, sp 3 3, e6b22, e6b29, sp 24 24, e6b16], [e6b10 g w, e6b5, e6b30 ret51v l24 j25, hA 5006 58 t3 (keys ++ [(ret51v.getD j25 (z3, ([] : (List (Int × LN))))).1]), e6b7, e6b0 g w rv, e6b1 ret51v]⟩ : St)) (by kernel_rfl) ?_
        refine awl_nil ?_
        refine blockQ_n ?_
        exact thenQ_n ⟨(l24 ++ [j25], (keys ++ [(ret51v.getD j25 (z3, ([] : (List (Int × LN))))).1])), rfl, h⟩
       ·have h := h.2 hall
        refine lpr (st' := (⟨116, [e6b20, sp 3 3, e6b22, e6b29, sp 24 24, (25, [], .tup [.c (.pB false)]), e6b16], [e6b10 g w, e6b5, (24, [], .mit (.own 70001) ret51v.length l24), e6b42 keys, e6b7, e6b0 g w rv, e6b1 ret51v]⟩ : St)) (by kernel_rfl) ?_
        refine rqT 1 ⟨116, [e6b20, sp 3 3, e6b22, e6b29, sp 24 24, sB 26 false, e6b16], [e6b10 g w, e6b5, (24, [], .mit (.own 70001) ret51v.length l24), e6b42 keys, e6b7, e6b0 g w rv, e6b1 ret51v]⟩ (by kernel_rfl) ?_
        refine nn ?_
        refine aw_seq ?_
        refine aw_cond (b := false) (by kernel_rfl) (fun hb => by cases hb) (fun _ => ?_)
        refine cpr (st' := (⟨116, [e6b20, sp 3 3, e6b22, e6b29, e6b16], [e6b10 g w, e6b5, e6b42 keys, e6b7, e6b0 g w rv, e6b1 ret51v]⟩ : St)) (by kernel_rfl) ?_
        refine aw_exit ?_
        refine thenQ_x ?_
        refine thenQ_x ?_
        refine blockQ_hit ?_
        exact rest6 keys h
   ·refine awd_begin [] (by kernel_rfl) ?_
    refine drq (by kernel_rfl) [0, 1, 2, 3] (ob := (Ts 4 True)) (done' := [3, 2, 1, 0]) (st' := (⟨57, [e6b36 w, sp 2 2, e6b22, e6b27 g, s1 21 (.pS w), e6b41 g, s1 23 (.pS w)], [e6b8 g, e6b5]⟩ : St)) (by kernel_rfl) (tsI 4 trivial) ?_
    refine awd_two (i := 4) (j := 5) (by kernel_rfl) ?_ ?_
    ·have h := h
     refine dcq (d := 24) [.d tG, .d (.sl tI)] (fun ret24v => (⟨57, [e6b36 w, sp 2 2, e6b22, e6b27 g, s1 21 (.pS w), e6b39 ret24v], [e6b8 g, e6b5]⟩ : St)) rfl (by kernel_rfl) Try.call14 (fun _ => by kernel_rfl) (link14 g w _ h) (fun ret24v h => ?_)
     refine awd_one (i := 5) (by kernel_rfl) ?_
     refine dsq (ob := True) (st' := (⟨57, [e6b36 w, sp 2 2, e6b22, e6b27 g, s1 21 (.pS w), e6b39 ret24v, s1 25 (.own 25)], [e6b8 g, e6b5, e6b11]⟩ : St)) rfl (by kernel_rfl) trivial ?_
     refine drq (by kernel_rfl) [6] (ob := (Ts 1 True)) (done' := [6, 5, 4, 3, 2, 1, 0]) (st' := (⟨57, [e6b36 w, sp 2 2, e6b22, e6b31 g w ret24v], [e6b8 g, e6b5, e6b11]⟩ : St)) (by kernel_rfl) (tsI 1 trivial) ?_
     refine awd_one (i := 7) (by kernel_rfl) ?_
     refine dsq (ob := True) (st' := (⟨57, [e6b36 w, sp 2 2, e6b22, sp 27 27], [e6b8 g, e6b5, e6b11, e6b19 g w ret24v]⟩ : St)) rfl (by kernel_rfl) trivial ?_
     refine drq (by kernel_rfl) [8] (ob := (Ts 1 True)) (done' := [8, 7, 6, 5, 4, 3, 2, 1, 0]) (st' := (⟨57, [e6b36 w, sp 2 2, e6b22, sp 7 27], [e6b8 g, e6b5, e6b11, e6b19 g w ret24v]⟩ : St)) (by kernel_rfl) (tsI 1 trivial) ?_
     refine awd_done (by kernel_rfl) ?_
     exact rest7 ret24v h
    ·have h := h
     refine dsq (ob := True) (st' := (⟨57, [e6b36 w, sp 2 2, e6b22, e6b27 g, s1 21 (.pS w), e6b41 g, s1 23 (.pS w), s1 25 (.own 25)], [e6b8 g, e6b5, e6b11]⟩ : St)) rfl (by kernel_rfl) trivial ?_
     refine awd_one (i := 4) (by kernel_rfl) ?_
     refine dcq (d := 24) [.d tG, .d (.sl tI)] (fun ret24v => (⟨57, [e6b36 w, sp 2 2, e6b22, e6b27 g, s1 21 (.pS w), e6b39 ret24v, s1 25 (.own 25)], [e6b8 g, e6b5, e6b11]⟩ : St)) rfl (by kernel_rfl) Try.call14 (fun _ => by kernel_rfl) (link14 g w _ h) (fun ret24v h => ?_)
     refine drq (by kernel_rfl) [6] (ob := (Ts 1 True)) (done' := [6, 4, 5, 3, 2, 1, 0]) (st' := (⟨57, [e6b36 w, sp 2 2, e6b22, e6b31 g w ret24v], [e6b8 g, e6b5, e6b11]⟩ : St)) (by kernel_rfl) (tsI 1 trivial) ?_
     refine awd_one (i := 7) (by kernel_rfl) ?_
     refine dsq (ob := True) (st' := (⟨57, [e6b36 w, sp 2 2, e6b22, sp 27 27], [e6b8 g, e6b5, e6b11, e6b19 g w ret24v]⟩ : St)) rfl (by kernel_rfl) trivial ?_
     refine drq (by kernel_rfl) [8] (ob := (Ts 1 True)) (done' := [8, 7, 6, 4, 5, 3, 2, 1, 0]) (st' := (⟨57, [e6b36 w, sp 2 2, e6b22, sp 7 27], [e6b8 g, e6b5, e6b11, e6b19 g w ret24v]⟩ : St)) (by kernel_rfl) (tsI 1 trivial) ?_
     refine awd_done (by kernel_rfl) ?_
     exact rest7 ret24v h
abbrev e64_0 (g : TG) : Nat × Path × Con := hB 2 [.pI g.1, .pI g.2.1, .pI g.2.2.1, .p (.sl tR) g.2.2.2]
abbrev e64_1 (l : LI) : Nat × Path × AV := sI 8 (l.length : Int)
-- coppicer/coppicerref.Signs
def VC64_k1 (K : Bool → Prop) : Prop :=
  K true
def VC64_l1 (g : TG) (l : LI) (K : Bool → Prop) (v9 : Int) (X1 : Int → Prop) : Prop :=
  (((decide (v9 < (l.length : Int))) = true → (inIdx v9 l.length ∧ (((decide ((l.getD (v9).toNat (0 : Int)) < (0 : Int))) = false → InR (g.1 + g.2.1)) ∧ ((((decide ((l.getD (v9).toNat (0 : Int)) < (0 : Int))) || (decide ((g.1 + g.2.1) ≤ (l.getD (v9).toNat (0 : Int))))) = true → K false) ∧ (((decide ((l.getD (v9).toNat (0 : Int)) < (0 : Int))) || (decide ((g.1 + g.2.1) ≤ (l.getD (v9).toNat (0 : Int))))) = false → (InR (v9 + (1 : Int)) ∧ X1 (v9 + (1 : Int)))))))) ∧ ((decide (v9 < (l.length : Int))) = false → VC64_k1 K))
def VC64 (g : TG) (l : LI) (K : Bool → Prop) : Prop :=
  Loop (σ := Int) (fun s X => VC64_l1 g l K s X) (0 : Int)
set_option maxHeartbeats 4000000 in
theorem link64 (g : TG) (l : LI) (K : Bool → Prop) (h : VC64 g l K) : ACalls Try.prog 64 [toV1 tG g, toV1 (.sl tI) l] (fun res => ∃ y, res = (fun y => [toV1 .bool y]) y ∧ K y) := by
 refine acalls_of_aw [.bool] [.t 4] Try.func64 rfl rfl rfl ?_
 unfold VC64 at h
 refine srn 2 ⟨25, [s1 1 (.pS l), sp 2 2], [e64_0 g]⟩ (by kernel_rfl) rfl ?_
 refine aw_seq ?_
 refine srn 3 ⟨25, [sp 2 2, s1 7 (.pS l), e64_1 l, sI 9 (0 : Int)], [e64_0 g]⟩ (by kernel_rfl) rfl ?_
 refine withJoin (σ := Unit) (fun s => (⟨25, [], []⟩ : St)) (fun s => VC64_k1 K) (fun s h => ?_) (fun rest1 => ?_)
 ·have h : VC64_k1 K := h
  unfold VC64_k1 at h
  refine thenQ_n ?_
  refine srn 1 ⟨25, [sB 4 true], []⟩ (by kernel_rfl) rfl ?_
  refine aw_ret ?_
  exact retQ_r (ob := Ts 1 True) _ (by kernel_rfl) (tsI 1 trivial) h
 ·refine aw_block ?_
  refine aw_loop (σ := Int) (fun s => (⟨25, [sp 2 2, s1 7 (.pS l), e64_1 l, sI 9 s], [e64_0 g]⟩ : St)) (fun s X => VC64_l1 g l K s X) (s0 := (0 : Int)) (fun v9 X1 h => ?_) h
  have h : VC64_l1 g l K v9 X1 := h
  unfold VC64_l1 at h
  refine srn 1 ⟨25, [sp 2 2, s1 7 (.pS l), e64_1 l, sI 9 v9, sB 10 (decide (v9 < (l.length : Int)))], [e64_0 g]⟩ (by kernel_rfl) rfl ?_
  refine aw_seq ?_
  refine aw_cond (b := (decide (v9 < (l.length : Int)))) (by kernel_rfl) (fun hb => ?_) (fun hb => ?_)
  ·have h := h.1 hb
   refine aw_skip ?_
   refine thenQ_n ?_
   refine aw_seq ?_
   refine aw_block ?_
   refine sr ?_
   obtain ⟨o1, h⟩ := h
   refine rq 3 (ob := (inIdx v9 l.length ∧ Ts 2 True)) (st' := (⟨25, [sp 2 2, sI 6 (l.getD (v9).toNat (0 : Int)), s1 7 (.pS l), e64_1 l, sI 9 v9], [e64_0 g]⟩ : St)) (by kernel_rfl) (⟨o1, tsI 2 trivial⟩) ?_
   refine nsr ?_
   obtain ⟨o1, h⟩ := h
   refine rq 11 (ob := (Ts 3 (Ti 5 ((decide ((l.getD (v9).toNat (0 : Int)) < (0 : Int))) = false → True) (((decide ((l.getD (v9).toNat (0 : Int)) < (0 : Int))) = false → InR (g.1 + g.2.1)) ∧ ((decide ((l.getD (v9).toNat (0 : Int)) < (0 : Int))) = false → True) ∧ Ts 1 True)))) (st' := (⟨25, [sp 2 2, s1 7 (.pS l), e64_1 l, sI 9 v9, sB 23 ((decide ((l.getD (v9).toNat (0 : Int)) < (0 : Int))) || (decide ((g.1 + g.2.1) ≤ (l.getD (v9).toNat (0 : Int)))))], [e64_0 g]⟩ : St)) (by kernel_rfl) (tsI 3 (tiI 5 (fun _ => trivial) (⟨o1, ⟨(fun _ => trivial), tsI 1 trivial⟩⟩))) ?_
   refine nn ?_
   refine aw_cond (b := ((decide ((l.getD (v9).toNat (0 : Int)) < (0 : Int))) || (decide ((g.1 + g.2.1) ≤ (l.getD (v9).toNat (0 : Int)))))) (by kernel_rfl) (fun hb => ?_) (fun hb => ?_)
   ·have h := h.1 hb
    refine srn 1 ⟨25, [sB 4 false], []⟩ (by kernel_rfl) rfl ?_
    refine aw_ret ?_
    refine blockQ_r ?_
    refine thenQ_r ?_
    refine thenQ_r ?_
    refine blockQ_r ?_
    refine thenQ_r ?_
    exact retQ_r (ob := Ts 1 True) _ (by kernel_rfl) (tsI 1 trivial) h
   ·have h := h.2 hb
    refine aw_skip ?_
    refine blockQ_n ?_
    refine thenQ_n ?_
    refine aw_region ?_
    obtain ⟨o1, h⟩ := h
    refine rq 2 (ob := (InR (v9 + (1 : Int)) ∧ Ts 1 True)) (st' := (⟨25, [sp 2 2, s1 7 (.pS l), e64_1 l, sI 9 (v9 + (1 : Int))], [e64_0 g]⟩ : St)) (by kernel_rfl) (⟨o1, tsI 1 trivial⟩) ?_
    refine awl_nil ?_
    exact thenQ_n ⟨(v9 + (1 : Int)), rfl, h⟩
  ·have h := h.2 hb
   refine cpr (st' := (⟨25, [], []⟩ : St)) (by kernel_rfl) ?_
   refine aw_exit ?_
   refine thenQ_x ?_
   refine thenQ_x ?_
   refine blockQ_hit ?_
   exact rest1 () h
abbrev e41_0 (g : TG) : Nat × Path × Con := hB 1 [.pI g.1, .pI g.2.1, .pI g.2.2.1, .p (.sl tR) g.2.2.2]
abbrev e41_1 (g : TG) : Nat × Path × AV := s1 54 (.p (.sl tR) g.2.2.2)
abbrev e41_2 (g : TG) : Nat × Path × AV := s1 32 (.p (.sl tR) g.2.2.2)
abbrev e41_3 (g : TG) (v56 : Int) : Nat × Path × AV := sB 70 ((decide ((g.2.2.2.getD (v56).toNat ((0 : Int), ([] : LI))).1 < (0 : Int))) || (decide (g.2.1 ≤ (g.2.2.2.getD (v56).toNat ((0 : Int), ([] : LI))).1)))
abbrev e41_4 (g : TG) : Nat × Path × AV := sI 55 (g.2.2.2.length : Int)
abbrev e41_5 (g : TG) : Nat × Path × AV := sI 33 (g.2.2.2.length : Int)
-- coppicer/coppicerref.GrammarCheck
def VC41_k2 (K : Int → Prop) : Prop :=
  K (0 : Int)
def VC41_l1 (g : TG) (K : Int → Prop) (v56 : Int) (X1 : Int → Prop) : Prop :=
  (((decide (v56 < (g.2.2.2.length : Int))) = true → (inIdx v56 g.2.2.2.length ∧ gcall (α := Bool) (!((decide ((g.2.2.2.getD (v56).toNat ((0 : Int), ([] : LI))).1 < (0 : Int))) || (decide (g.2.1 ≤ (g.2.2.2.getD (v56).toNat ((0 : Int), ([] : LI))).1)))) (VC64 g ((g.2.2.2.getD (v56).toNat ((0 : Int), ([] : LI))).2)) false (fun (ret74v : Bool) => (((((decide ((g.2.2.2.getD (v56).toNat ((0 : Int), ([] : LI))).1 < (0 : Int))) || (decide (g.2.1 ≤ (g.2.2.2.getD (v56).toNat ((0 : Int), ([] : LI))).1))) || (!ret74v)) = true → K (2 : Int)) ∧ ((((decide ((g.2.2.2.getD (v56).toNat ((0 : Int), ([] : LI))).1 < (0 : Int))) || (decide (g.2.1 ≤ (g.2.2.2.getD (v56).toNat ((0 : Int), ([] : LI))).1))) || (!ret74v)) = false → (InR (v56 + (1 : Int)) ∧ X1 (v56 + (1 : Int)))))))) ∧ ((decide (v56 < (g.2.2.2.length : Int))) = false → VC41_k2 K))
def VC41_k1 (g : TG) (K : Int → Prop) : Prop :=
  ((((decide (g.2.2.1 < (0 : Int))) || (decide (g.2.1 ≤ g.2.2.1))) = true → K (2 : Int)) ∧ (((decide (g.2.2.1 < (0 : Int))) || (decide (g.2.1 ≤ g.2.2.1))) = false → Loop (σ := Int) (fun s X => VC41_l1 g K s X) (0 : Int)))
def VC41_l2 (g : TG) (K : Int → Prop) (v34 : Int) (X2 : Int → Prop) : Prop :=
  (((decide (v34 < (g.2.2.2.length : Int))) = true → (inIdx v34 g.2.2.2.length ∧ (((decide ((4 : Int) < (((g.2.2.2.getD (v34).toNat ((0 : Int), ([] : LI))).2).length : Int))) = true → K (1 : Int)) ∧ ((decide ((4 : Int) < (((g.2.2.2.getD (v34).toNat ((0 : Int), ([] : LI))).2).length : Int))) = false → (InR (v34 + (1 : Int)) ∧ X2 (v34 + (1 : Int))))))) ∧ ((decide (v34 < (g.2.2.2.length : Int))) = false → VC41_k1 g K))
def VC41 (g : TG) (K : Int → Prop) : Prop :=
  (((((((decide (g.1 < (1 : Int))) || (decide ((3 : Int) < g.1))) || (decide (g.2.1 < (1 : Int)))) || (decide ((5 : Int) < g.2.1))) || (decide ((10 : Int) < (g.2.2.2.length : Int)))) = true → K (1 : Int)) ∧ ((((((decide (g.1 < (1 : Int))) || (decide ((3 : Int) < g.1))) || (decide (g.2.1 < (1 : Int)))) || (decide ((5 : Int) < g.2.1))) || (decide ((10 : Int) < (g.2.2.2.length : Int)))) = false → Loop (σ := Int) (fun s X => VC41_l2 g K s X) (0 : Int)))
set_option maxHeartbeats 4000000 in
theorem link41 (g : TG) (K : Int → Prop) (h : VC41 g K) : ACalls Try.prog 41 [toV1 tG g] (fun res => ∃ y, res = (fun y => [toV1 tI y]) y ∧ K y) := by
 refine acalls_of_aw [tI] [.t 2] Try.func41 rfl rfl rfl ?_
 unfold VC41 at h
 refine srn 2 ⟨78, [sp 1 1], [e41_0 g]⟩ (by kernel_rfl) rfl ?_
 refine aw_seq ?_
 refine sr ?_
 refine rq 24 (ob := (Ts 4 (Ti 3 ((decide (g.1 < (1 : Int))) = false → True) (Ts 2 (Ti 3 (((decide (g.1 < (1 : Int))) || (decide ((3 : Int) < g.1))) = false → True) (Ts 2 (Ti 3 ((((decide (g.1 < (1 : Int))) || (decide ((3 : Int) < g.1))) || (decide (g.2.1 < (1 : Int)))) = false → True) (Ts 2 (Ti 4 (((((decide (g.1 < (1 : Int))) || (decide ((3 : Int) < g.1))) || (decide (g.2.1 < (1 : Int)))) || (decide ((5 : Int) < g.2.1))) = false → True) (Ts 1 True)))))))))) (st' := (⟨78, [sp 1 1, sB 30 (((((decide (g.1 < (1 : Int))) || (decide ((3 : Int) < g.1))) || (decide (g.2.1 < (1 : Int)))) || (decide ((5 : Int) < g.2.1))) || (decide ((10 : Int) < (g.2.2.2.length : Int))))], [e41_0 g]⟩ : St)) (by kernel_rfl) (tsI 4 (tiI 3 (fun _ => trivial) (tsI 2 (tiI 3 (fun _ => trivial) (tsI 2 (tiI 3 (fun _ => trivial) (tsI 2 (tiI 4 (fun _ => trivial) (tsI 1 trivial))))))))) ?_
 refine nn ?_
 refine aw_cond (b := (((((decide (g.1 < (1 : Int))) || (decide ((3 : Int) < g.1))) || (decide (g.2.1 < (1 : Int)))) || (decide ((5 : Int) < g.2.1))) || (decide ((10 : Int) < (g.2.2.2.length : Int))))) (by kernel_rfl) (fun hb => ?_) (fun hb => ?_)
 ·have h := h.1 hb
  refine srn 1 ⟨78, [sI 2 (1 : Int)], []⟩ (by kernel_rfl) rfl ?_
  refine aw_ret ?_
  refine thenQ_r ?_
  exact retQ_r (ob := Ts 1 True) _ (by kernel_rfl) (tsI 1 trivial) h
 ·have h := h.2 hb
  refine aw_skip ?_
  refine thenQ_n ?_
  refine aw_seq ?_
  refine srn 4 ⟨78, [sp 1 1, e41_2 g, e41_5 g, sI 34 (0 : Int)], [e41_0 g]⟩ (by kernel_rfl) rfl ?_
  refine withJoin (σ := Unit) (fun s => (⟨78, [sp 1 1], [e41_0 g]⟩ : St)) (fun s => VC41_k1 g K) (fun s h => ?_) (fun rest2 => ?_)
  ·have h : VC41_k1 g K := h
   unfold VC41_k1 at h
   refine thenQ_n ?_
   refine aw_seq ?_
   refine sr ?_
   refine rq 10 (ob := (Ts 4 (Ti 5 ((decide (g.2.2.1 < (0 : Int))) = false → True) (Ts 1 True)))) (st' := (⟨78, [sp 1 1, sB 52 ((decide (g.2.2.1 < (0 : Int))) || (decide (g.2.1 ≤ g.2.2.1)))], [e41_0 g]⟩ : St)) (by kernel_rfl) (tsI 4 (tiI 5 (fun _ => trivial) (tsI 1 trivial))) ?_
   refine nn ?_
   refine aw_cond (b := ((decide (g.2.2.1 < (0 : Int))) || (decide (g.2.1 ≤ g.2.2.1)))) (by kernel_rfl) (fun hb => ?_) (fun hb => ?_)
   ·have h := h.1 hb
    refine srn 1 ⟨78, [sI 2 (2 : Int)], []⟩ (by kernel_rfl) rfl ?_
    refine aw_ret ?_
    refine thenQ_r ?_
    exact retQ_r (ob := Ts 1 True) _ (by kernel_rfl) (tsI 1 trivial) h
   ·have h := h.2 hb
    refine aw_skip ?_
    refine thenQ_n ?_
    refine aw_seq ?_
    refine srn 4 ⟨78, [sp 1 1, e41_1 g, e41_4 g, sI 56 (0 : Int)], [e41_0 g]⟩ (by kernel_rfl) rfl ?_
    refine withJoin (σ := Unit) (fun s => (⟨78, [], []⟩ : St)) (fun s => VC41_k2 K) (fun s h => ?_) (fun rest1 => ?_)
    ·have h : VC41_k2 K := h
     unfold VC41_k2 at h
     refine thenQ_n ?_
     refine srn 1 ⟨78, [sI 2 (0 : Int)], []⟩ (by kernel_rfl) rfl ?_
     refine aw_ret ?_
     exact retQ_r (ob := Ts 1 True) _ (by kernel_rfl) (tsI 1 trivial) h
    ·refine aw_block ?_
     refine aw_loop (σ := Int) (fun s => (⟨78, [sp 1 1, e41_1 g, e41_4 g, sI 56 s], [e41_0 g]⟩ : St)) (fun s X => VC41_l1 g K s X) (s0 := (0 : Int)) (fun v56 X1 h => ?_) h
     have h : VC41_l1 g K v56 X1 := h
     unfold VC41_l1 at h
     refine srn 1 ⟨78, [sp 1 1, e41_1 g, e41_4 g, sI 56 v56, sB 57 (decide (v56 < (g.2.2.2.length : Int)))], [e41_0 g]⟩ (by kernel_rfl) rfl ?_
     refine aw_seq ?_
     refine aw_cond (b := (decide (v56 < (g.2.2.2.length : Int)))) (by kernel_rfl) (fun hb => ?_) (fun hb => ?_)
     ·have h := h.1 hb
      refine aw_skip ?_
      refine thenQ_n ?_
      refine aw_seq ?_
      refine aw_block ?_
      refine sr ?_
      obtain ⟨o1, h⟩ := h
      refine rq 4 (ob := (inIdx v56 g.2.2.2.length ∧ Ts 3 True)) (st' := (⟨78, [sp 1 1, sp 6 6, e41_1 g, e41_4 g, sI 56 v56], [e41_0 g, hB 6 [.pI ((g.2.2.2.getD (v56).toNat ((0 : Int), ([] : LI))).1), .pS ((g.2.2.2.getD (v56).toNat ((0 : Int), ([] : LI))).2)]]⟩ : St)) (by kernel_rfl) (⟨o1, tsI 3 trivial⟩) ?_
      refine nsr ?_
      refine rq 14 (ob := (Ts 4 (Ti 5 ((decide ((g.2.2.2.getD (v56).toNat ((0 : Int), ([] : LI))).1 < (0 : Int))) = false → True) (Ts 2 (Ti 3 (((decide ((g.2.2.2.getD (v56).toNat ((0 : Int), ([] : LI))).1 < (0 : Int))) || (decide (g.2.1 ≤ (g.2.2.2.getD (v56).toNat ((0 : Int), ([] : LI))).1))) = false → True) True))))) (st' := (⟨78, [sp 1 1, e41_1 g, e41_4 g, sI 56 v56, e41_3 g v56, (71, [(70, false)], .v (.agg [.pI g.1, .pI g.2.1, .pI g.2.2.1, .p (.sl tR) g.2.2.2])), (73, [(70, false)], .v (.c (.pS ((g.2.2.2.getD (v56).toNat ((0 : Int), ([] : LI))).2))))], [e41_0 g]⟩ : St)) (by kernel_rfl) (tsI 4 (tiI 5 (fun _ => trivial) (tsI 2 (tiI 3 (fun _ => trivial) trivial)))) ?_
      refine awl_callk (p := [(70, false)]) (l := [toV1 tG g, toV1 (.sl tI) ((g.2.2.2.getD (v56).toNat ((0 : Int), ([] : LI))).2)]) (cl := []) false [.d tG, .d (.sl tI)] [1, 54, 55, 56, 70, 74] [1] (fun (ret74v : Bool) => (((((decide ((g.2.2.2.getD (v56).toNat ((0 : Int), ([] : LI))).1 < (0 : Int))) || (decide (g.2.1 ≤ (g.2.2.2.getD (v56).toNat ((0 : Int), ([] : LI))).1))) || (!ret74v)) = true → K (2 : Int)) ∧ ((((decide ((g.2.2.2.getD (v56).toNat ((0 : Int), ([] : LI))).1 < (0 : Int))) || (decide (g.2.1 ≤ (g.2.2.2.getD (v56).toNat ((0 : Int), ([] : LI))).1))) || (!ret74v)) = false → (InR (v56 + (1 : Int)) ∧ X1 (v56 + (1 : Int)))))) (fun ret74v => [toV1 .bool ret74v]) (fun ret74v => (⟨78, [sp 1 1, e41_1 g, e41_4 g, sI 56 v56, e41_3 g v56, (74, [(70, false)], .v (.c (.pB ret74v)))], [e41_0 g]⟩ : St)) (by kernel_rfl) rfl (by kernel_rfl) rfl (by kernel_rfl) Try.call64 (by kernel_rfl) (fun ret74v => by kernel_rfl) (fun e => by cases e) (fun hg => link64 g ((g.2.2.2.getD (v56).toNat ((0 : Int), ([] : LI))).2) _ (by have := gcall_T h (show (!((decide ((g.2.2.2.getD (v56).toNat ((0 : Int), ([] : LI))).1 < (0 : Int))) || (decide (g.2.1 ≤ (g.2.2.2.getD (v56).toNat ((0 : Int), ([] : LI))).1)))) = true from hg); exact this)) (fun hg => ⟨false, by have := gcall_F h (show (!((decide ((g.2.2.2.getD (v56).toNat ((0 : Int), ([] : LI))).1 < (0 : Int))) || (decide (g.2.1 ≤ (g.2.2.2.getD (v56).toNat ((0 : Int), ([] : LI))).1)))) = false from hg); exact this⟩) (fun ret74v h => ?_)
      refine rq 2 (ob := ((((decide ((g.2.2.2.getD (v56).toNat ((0 : Int), ([] : LI))).1 < (0 : Int))) || (decide (g.2.1 ≤ (g.2.2.2.getD (v56).toNat ((0 : Int), ([] : LI))).1))) = false → True) ∧ Ts 1 True)) (st' := (⟨78, [sp 1 1, e41_1 g, e41_4 g, sI 56 v56, sB 76 (((decide ((g.2.2.2.getD (v56).toNat ((0 : Int), ([] : LI))).1 < (0 : Int))) || (decide (g.2.1 ≤ (g.2.2.2.getD (v56).toNat ((0 : Int), ([] : LI))).1))) || (!ret74v))], [e41_0 g]⟩ : St)) (by kernel_rfl) (⟨(fun _ => trivial), tsI 1 trivial⟩) ?_
      refine nn ?_
      refine aw_cond (b := (((decide ((g.2.2.2.getD (v56).toNat ((0 : Int), ([] : LI))).1 < (0 : Int))) || (decide (g.2.1 ≤ (g.2.2.2.getD (v56).toNat ((0 : Int), ([] : LI))).1))) || (!ret74v))) (by kernel_rfl) (fun hb => ?_) (fun hb => ?_)
      ·have h := h.1 hb
       refine srn 1 ⟨78, [sI 2 (2 : Int)], []⟩ (by kernel_rfl) rfl ?_
       refine aw_ret ?_
       refine blockQ_r ?_
       refine thenQ_r ?_
       refine thenQ_r ?_
       refine blockQ_r ?_
       refine thenQ_r ?_
       exact retQ_r (ob := Ts 1 True) _ (by kernel_rfl) (tsI 1 trivial) h
      ·have h := h.2 hb
       refine aw_skip ?_
       refine blockQ_n ?_
       refine thenQ_n ?_
       refine aw_region ?_
       obtain ⟨o1, h⟩ := h
       refine rq 2 (ob := (InR (v56 + (1 : Int)) ∧ Ts 1 True)) (st' := (⟨78, [sp 1 1, e41_1 g, e41_4 g, sI 56 (v56 + (1 : Int))], [e41_0 g]⟩ : St)) (by kernel_rfl) (⟨o1, tsI 1 trivial⟩) ?_
       refine awl_nil ?_
       exact thenQ_n ⟨(v56 + (1 : Int)), rfl, h⟩
     ·have h := h.2 hb
      refine cpr (st' := (⟨78, [], []⟩ : St)) (by kernel_rfl) ?_
      refine aw_exit ?_
      refine thenQ_x ?_
      refine thenQ_x ?_
      refine blockQ_hit ?_
      exact rest1 () h
  ·refine aw_block ?_
   refine aw_loop (σ := Int) (fun s => (⟨78, [sp 1 1, e41_2 g, e41_5 g, sI 34 s], [e41_0 g]⟩ : St)) (fun s X => VC41_l2 g K s X) (s0 := (0 : Int)) (fun v34 X2 h => ?_) h
   have h : VC41_l2 g K v34 X2 := h
   unfold VC41_l2 at h
   refine srn 1 ⟨78, [sp 1 1, e41_2 g, e41_5 g, sI 34 v34, sB 35 (decide (v34 < (g.2.2.2.length : Int)))], [e41_0 g]⟩ (by kernel_rfl) rfl ?_
   refine aw_seq ?_
   refine aw_cond (b := (decide (v34 < (g.2.2.2.length : Int)))) (by kernel_rfl) (fun hb => ?_) (fun hb => ?_)
   ·have h := h.1 hb
    refine aw_skip ?_
    refine thenQ_n ?_
    refine aw_seq ?_
    refine aw_block ?_
    refine sr ?_
    obtain ⟨o1, h⟩ := h
    refine rq 4 (ob := (inIdx v34 g.2.2.2.length ∧ Ts 3 True)) (st' := (⟨78, [sp 1 1, sp 4 4, e41_2 g, e41_5 g, sI 34 v34], [e41_0 g, hB 4 [.pI ((g.2.2.2.getD (v34).toNat ((0 : Int), ([] : LI))).1), .pS ((g.2.2.2.getD (v34).toNat ((0 : Int), ([] : LI))).2)]]⟩ : St)) (by kernel_rfl) (⟨o1, tsI 3 trivial⟩) ?_
    refine nsr ?_
    refine rqT 4 ⟨78, [sp 1 1, e41_2 g, e41_5 g, sI 34 v34, sB 41 (decide ((4 : Int) < (((g.2.2.2.getD (v34).toNat ((0 : Int), ([] : LI))).2).length : Int)))], [e41_0 g]⟩ (by kernel_rfl) ?_
    refine nn ?_
    refine aw_cond (b := (decide ((4 : Int) < (((g.2.2.2.getD (v34).toNat ((0 : Int), ([] : LI))).2).length : Int)))) (by kernel_rfl) (fun hb => ?_) (fun hb => ?_)
    ·have h := h.1 hb
     refine srn 1 ⟨78, [sI 2 (1 : Int)], []⟩ (by kernel_rfl) rfl ?_
     refine aw_ret ?_
     refine blockQ_r ?_
     refine thenQ_r ?_
     refine thenQ_r ?_
     refine blockQ_r ?_
     refine thenQ_r ?_
     exact retQ_r (ob := Ts 1 True) _ (by kernel_rfl) (tsI 1 trivial) h
    ·have h := h.2 hb
     refine aw_skip ?_
     refine blockQ_n ?_
     refine thenQ_n ?_
     refine aw_region ?_
     obtain ⟨o1, h⟩ := h
     refine rq 2 (ob := (InR (v34 + (1 : Int)) ∧ Ts 1 True)) (st' := (⟨78, [sp 1 1, e41_2 g, e41_5 g, sI 34 (v34 + (1 : Int))], [e41_0 g]⟩ : St)) (by kernel_rfl) (⟨o1, tsI 1 trivial⟩) ?_
     refine awl_nil ?_
     exact thenQ_n ⟨(v34 + (1 : Int)), rfl, h⟩
   ·have h := h.2 hb
    refine cpr (st' := (⟨78, [sp 1 1], [e41_0 g]⟩ : St)) (by kernel_rfl) ?_
    refine aw_exit ?_
    refine thenQ_x ?_
    refine thenQ_x ?_
    refine blockQ_hit ?_
    exact rest2 () h
abbrev e42_0 (w : LI) : Nat × Path × AV := sI 11 (w.length : Int)
-- coppicer/coppicerref.WordCheck
def VC42_k1 (K : Int → Prop) : Prop :=
  K (0 : Int)
def VC42_l1 (k : Int) (w : LI) (K : Int → Prop) (v12 : Int) (X1 : Int → Prop) : Prop :=
  (((decide (v12 < (w.length : Int))) = true → (inIdx v12 w.length ∧ ((((decide ((w.getD (v12).toNat (0 : Int)) < (0 : Int))) || (decide (k ≤ (w.getD (v12).toNat (0 : Int))))) = true → K (2 : Int)) ∧ (((decide ((w.getD (v12).toNat (0 : Int)) < (0 : Int))) || (decide (k ≤ (w.getD (v12).toNat (0 : Int))))) = false → (InR (v12 + (1 : Int)) ∧ X1 (v12 + (1 : Int))))))) ∧ ((decide (v12 < (w.length : Int))) = false → VC42_k1 K))
def VC42 (k : Int) (w : LI) (K : Int → Prop) : Prop :=
  (((decide ((12 : Int) < (w.length : Int))) = true → K (1 : Int)) ∧ ((decide ((12 : Int) < (w.length : Int))) = false → Loop (σ := Int) (fun s X => VC42_l1 k w K s X) (0 : Int)))
set_option maxHeartbeats 4000000 in
theorem link42 (k : Int) (w : LI) (K : Int → Prop) (h : VC42 k w K) : ACalls Try.prog 42 [toV1 tI k, toV1 (.sl tI) w] (fun res => ∃ y, res = (fun y => [toV1 tI y]) y ∧ K y) := by
 refine acalls_of_aw [tI] [.t 4] Try.func42 rfl rfl rfl ?_
 unfold VC42 at h
 refine srn 1 ⟨24, [sI 0 k, s1 1 (.pS w)], []⟩ (by kernel_rfl) rfl ?_
 refine aw_seq ?_
 refine srn 3 ⟨24, [sI 0 k, s1 1 (.pS w), sB 9 (decide ((12 : Int) < (w.length : Int)))], []⟩ (by kernel_rfl) rfl ?_
 refine aw_cond (b := (decide ((12 : Int) < (w.length : Int)))) (by kernel_rfl) (fun hb => ?_) (fun hb => ?_)
 ·have h := h.1 hb
  refine srn 1 ⟨24, [sI 4 (1 : Int)], []⟩ (by kernel_rfl) rfl ?_
  refine aw_ret ?_
  refine thenQ_r ?_
  exact retQ_r (ob := Ts 1 True) _ (by kernel_rfl) (tsI 1 trivial) h
 ·have h := h.2 hb
  refine aw_skip ?_
  refine thenQ_n ?_
  refine aw_seq ?_
  refine srn 3 ⟨24, [sI 0 k, s1 10 (.pS w), e42_0 w, sI 12 (0 : Int)], []⟩ (by kernel_rfl) rfl ?_
  refine withJoin (σ := Unit) (fun s => (⟨24, [], []⟩ : St)) (fun s => VC42_k1 K) (fun s h => ?_) (fun rest1 => ?_)
  ·have h : VC42_k1 K := h
   unfold VC42_k1 at h
   refine thenQ_n ?_
   refine srn 1 ⟨24, [sI 4 (0 : Int)], []⟩ (by kernel_rfl) rfl ?_
   refine aw_ret ?_
   exact retQ_r (ob := Ts 1 True) _ (by kernel_rfl) (tsI 1 trivial) h
  ·refine aw_block ?_
   refine aw_loop (σ := Int) (fun s => (⟨24, [sI 0 k, s1 10 (.pS w), e42_0 w, sI 12 s], []⟩ : St)) (fun s X => VC42_l1 k w K s X) (s0 := (0 : Int)) (fun v12 X1 h => ?_) h
   have h : VC42_l1 k w K v12 X1 := h
   unfold VC42_l1 at h
   refine srn 1 ⟨24, [sI 0 k, s1 10 (.pS w), e42_0 w, sI 12 v12, sB 13 (decide (v12 < (w.length : Int)))], []⟩ (by kernel_rfl) rfl ?_
   refine aw_seq ?_
   refine aw_cond (b := (decide (v12 < (w.length : Int)))) (by kernel_rfl) (fun hb => ?_) (fun hb => ?_)
   ·have h := h.1 hb
    refine aw_skip ?_
    refine thenQ_n ?_
    refine aw_seq ?_
    refine aw_block ?_
    refine sr ?_
    obtain ⟨o1, h⟩ := h
    refine rq 3 (ob := (inIdx v12 w.length ∧ Ts 2 True)) (st' := (⟨24, [sI 0 k, sI 6 (w.getD (v12).toNat (0 : Int)), s1 10 (.pS w), e42_0 w, sI 12 v12], []⟩ : St)) (by kernel_rfl) (⟨o1, tsI 2 trivial⟩) ?_
    refine nsr ?_
    refine rq 7 (ob := (Ts 3 (Ti 3 ((decide ((w.getD (v12).toNat (0 : Int)) < (0 : Int))) = false → True) (Ts 1 True)))) (st' := (⟨24, [sI 0 k, s1 10 (.pS w), e42_0 w, sI 12 v12, sB 22 ((decide ((w.getD (v12).toNat (0 : Int)) < (0 : Int))) || (decide (k ≤ (w.getD (v12).toNat (0 : Int)))))], []⟩ : St)) (by kernel_rfl) (tsI 3 (tiI 3 (fun _ => trivial) (tsI 1 trivial))) ?_
    refine nn ?_
    refine aw_cond (b := ((decide ((w.getD (v12).toNat (0 : Int)) < (0 : Int))) || (decide (k ≤ (w.getD (v12).toNat (0 : Int)))))) (by kernel_rfl) (fun hb => ?_) (fun hb => ?_)
    ·have h := h.1 hb
     refine srn 1 ⟨24, [sI 4 (2 : Int)], []⟩ (by kernel_rfl) rfl ?_
     refine aw_ret ?_
     refine blockQ_r ?_
     refine thenQ_r ?_
     refine thenQ_r ?_
     refine blockQ_r ?_
     refine thenQ_r ?_
     exact retQ_r (ob := Ts 1 True) _ (by kernel_rfl) (tsI 1 trivial) h
    ·have h := h.2 hb
     refine aw_skip ?_
     refine blockQ_n ?_
     refine thenQ_n ?_
     refine aw_region ?_
     obtain ⟨o1, h⟩ := h
     refine rq 2 (ob := (InR (v12 + (1 : Int)) ∧ Ts 1 True)) (st' := (⟨24, [sI 0 k, s1 10 (.pS w), e42_0 w, sI 12 (v12 + (1 : Int))], []⟩ : St)) (by kernel_rfl) (⟨o1, tsI 1 trivial⟩) ?_
     refine awl_nil ?_
     exact thenQ_n ⟨(v12 + (1 : Int)), rfl, h⟩
   ·have h := h.2 hb
    refine cpr (st' := (⟨24, [], []⟩ : St)) (by kernel_rfl) ?_
    refine aw_exit ?_
    refine thenQ_x ?_
    refine thenQ_x ?_
    refine blockQ_hit ?_
    exact rest1 () h
abbrev e18_0 (g : TG) : Nat × Path × Con := hB 2 [.pI g.1, .pI g.2.1, .pI g.2.2.1, .p (.sl tR) g.2.2.2]
-- coppicer/coppicerkeep.grown
def VC18 (g : TG) (w : LI) (K : Bool → Prop) : Prop :=
  VC41 g (fun (ret6v : Int) => gcall (α := Int) (decide (ret6v = (0 : Int))) (VC42 g.1 w) (0 : Int) (fun (ret12v : Int) => K ((decide (ret6v = (0 : Int))) && (decide (ret12v = (0 : Int))))))
set_option maxHeartbeats 4000000 in
theorem link18 (g : TG) (w : LI) (K : Bool → Prop) (h : VC18 g w K) : ACalls Try.prog 18 [toV1 tG g, toV1 (.sl tI) w] (fun res => ∃ y, res = (fun y => [toV1 .bool y]) y ∧ K y) := by
 refine acalls_of_aw [.bool] [.t 4] Try.func18 rfl rfl rfl ?_
 unfold VC18 at h
 refine sr ?_
 refine rqT 2 ⟨15, [s1 1 (.pS w), sp 2 2], [e18_0 g]⟩ (by kernel_rfl) ?_
 refine nsr ?_
 refine rqT 1 ⟨15, [s1 1 (.pS w), sp 2 2, sA 5 [.pI g.1, .pI g.2.1, .pI g.2.2.1, .p (.sl tR) g.2.2.2]], [e18_0 g]⟩ (by kernel_rfl) ?_
 refine lcq (d := 6) [.d tG] (fun ret6v => (⟨15, [s1 1 (.pS w), sp 2 2, sI 6 ret6v], [e18_0 g]⟩ : St)) (by kernel_rfl) Try.call41 (fun _ => by kernel_rfl) (link41 g _ h) (fun ret6v h => ?_)
 refine rq 5 (ob := (Ts 2 (Ti 3 ((decide (ret6v = (0 : Int))) = true → True) True))) (st' := (⟨15, [sB 8 (decide (ret6v = (0 : Int))), (10, [(8, true)], .v (.c (.pI g.1))), (11, [(8, true)], .v (.c (.pS w)))], []⟩ : St)) (by kernel_rfl) (tsI 2 (tiI 3 (fun _ => trivial) trivial)) ?_
 refine awl_callk (p := [(8, true)]) (l := [toV1 tI g.1, toV1 (.sl tI) w]) (cl := []) false [.d tI, .d (.sl tI)] [8, 12] [] (fun (ret12v : Int) => K ((decide (ret6v = (0 : Int))) && (decide (ret12v = (0 : Int))))) (fun ret12v => [toV1 tI ret12v]) (fun ret12v => (⟨15, [sB 8 (decide (ret6v = (0 : Int))), (12, [(8, true)], .v (.c (.pI ret12v)))], []⟩ : St)) (by kernel_rfl) rfl (by kernel_rfl) rfl (by kernel_rfl) Try.call42 (by kernel_rfl) (fun ret12v => by kernel_rfl) (fun e => by cases e) (fun hg => link42 g.1 w _ (by have := gcall_T h (show (decide (ret6v = (0 : Int))) = true from hg); exact this)) (fun hg => ⟨(0 : Int), by have := gcall_F h (show (decide (ret6v = (0 : Int))) = false from hg); exact this⟩) (fun ret12v h => ?_)
 refine rq 3 (ob := (((decide (ret6v = (0 : Int))) = true → True) ∧ Ts 2 True)) (st' := (⟨15, [sB 4 ((decide (ret6v = (0 : Int))) && (decide (ret12v = (0 : Int))))], []⟩ : St)) (by kernel_rfl) (⟨(fun _ => trivial), tsI 2 trivial⟩) ?_
 refine nn ?_
 refine aw_ret ?_
 exact retQ_r (ob := Ts 1 True) _ (by kernel_rfl) (tsI 1 trivial) h
abbrev e19_0 (g : TG) : Nat × Path × Con := hB 1 [.pI g.1, .pI g.2.1, .pI g.2.2.1, .p (.sl tR) g.2.2.2]
abbrev e19_1 (g : TG) : Nat × Path × AV := s1 6 (.p (.sl tR) g.2.2.2)
abbrev e19_2 (g : TG) : Nat × Path × AV := sI 7 (g.2.2.2.length : Int)
-- coppicer/coppicerref.Proper
def VC19_k1 (K : Bool → Prop) : Prop :=
  K true
def VC19_l1 (g : TG) (K : Bool → Prop) (v8 : Int) (X1 : Int → Prop) : Prop :=
  (((decide (v8 < (g.2.2.2.length : Int))) = true → (inIdx v8 g.2.2.2.length ∧ (((decide ((((g.2.2.2.getD (v8).toNat ((0 : Int), ([] : LI))).2).length : Int) = (0 : Int))) = false → ((decide ((((g.2.2.2.getD (v8).toNat ((0 : Int), ([] : LI))).2).length : Int) = (1 : Int))) = true → inIdx (0 : Int) ((g.2.2.2.getD (v8).toNat ((0 : Int), ([] : LI))).2).length)) ∧ ((((decide ((((g.2.2.2.getD (v8).toNat ((0 : Int), ([] : LI))).2).length : Int) = (0 : Int))) || ((decide ((((g.2.2.2.getD (v8).toNat ((0 : Int), ([] : LI))).2).length : Int) = (1 : Int))) && (decide (g.1 ≤ (((g.2.2.2.getD (v8).toNat ((0 : Int), ([] : LI))).2).getD ((0 : Int)).toNat (0 : Int)))))) = true → K false) ∧ (((decide ((((g.2.2.2.getD (v8).toNat ((0 : Int), ([] : LI))).2).length : Int) = (0 : Int))) || ((decide ((((g.2.2.2.getD (v8).toNat ((0 : Int), ([] : LI))).2).length : Int) = (1 : Int))) && (decide (g.1 ≤ (((g.2.2.2.getD (v8).toNat ((0 : Int), ([] : LI))).2).getD ((0 : Int)).toNat (0 : Int)))))) = false → (InR (v8 + (1 : Int)) ∧ X1 (v8 + (1 : Int)))))))) ∧ ((decide (v8 < (g.2.2.2.length : Int))) = false → VC19_k1 K))
def VC19 (g : TG) (K : Bool → Prop) : Prop :=
  Loop (σ := Int) (fun s X => VC19_l1 g K s X) (0 : Int)
set_option maxHeartbeats 4000000 in
theorem link19 (g : TG) (K : Bool → Prop) (h : VC19 g K) : ACalls Try.prog 19 [toV1 tG g] (fun res => ∃ y, res = (fun y => [toV1 .bool y]) y ∧ K y) := by
 refine acalls_of_aw [.bool] [.t 2] Try.func19 rfl rfl rfl ?_
 unfold VC19 at h
 refine srn 2 ⟨32, [sp 1 1], [e19_0 g]⟩ (by kernel_rfl) rfl ?_
 refine aw_seq ?_
 refine srn 4 ⟨32, [sp 1 1, e19_1 g, e19_2 g, sI 8 (0 : Int)], [e19_0 g]⟩ (by kernel_rfl) rfl ?_
 refine withJoin (σ := Unit) (fun s => (⟨32, [], []⟩ : St)) (fun s => VC19_k1 K) (fun s h => ?_) (fun rest1 => ?_)
 ·have h : VC19_k1 K := h
  unfold VC19_k1 at h
  refine thenQ_n ?_
  refine srn 1 ⟨32, [sB 2 true], []⟩ (by kernel_rfl) rfl ?_
  refine aw_ret ?_
  exact retQ_r (ob := Ts 1 True) _ (by kernel_rfl) (tsI 1 trivial) h
 ·refine aw_block ?_
  refine aw_loop (σ := Int) (fun s => (⟨32, [sp 1 1, e19_1 g, e19_2 g, sI 8 s], [e19_0 g]⟩ : St)) (fun s X => VC19_l1 g K s X) (s0 := (0 : Int)) (fun v8 X1 h => ?_) h
  have h : VC19_l1 g K v8 X1 := h
  unfold VC19_l1 at h
  refine srn 1 ⟨32, [sp 1 1, e19_1 g, e19_2 g, sI 8 v8, sB 9 (decide (v8 < (g.2.2.2.length : Int)))], [e19_0 g]⟩ (by kernel_rfl) rfl ?_
  refine aw_seq ?_
  refine aw_cond (b := (decide (v8 < (g.2.2.2.length : Int)))) (by kernel_rfl) (fun hb => ?_) (fun hb => ?_)
  ·have h := h.1 hb
   refine aw_skip ?_
   refine thenQ_n ?_
   refine aw_seq ?_
   refine aw_block ?_
   refine sr ?_
   obtain ⟨o1, h⟩ := h
   refine rq 4 (ob := (inIdx v8 g.2.2.2.length ∧ Ts 3 True)) (st' := (⟨32, [sp 1 1, sp 4 4, e19_1 g, e19_2 g, sI 8 v8], [e19_0 g, hB 4 [.pI ((g.2.2.2.getD (v8).toNat ((0 : Int), ([] : LI))).1), .pS ((g.2.2.2.getD (v8).toNat ((0 : Int), ([] : LI))).2)]]⟩ : St)) (by kernel_rfl) (⟨o1, tsI 3 trivial⟩) ?_
   refine nn ?_
   refine aw_seq ?_
   refine awd_begin [] (by kernel_rfl) ?_
   obtain ⟨o1, h⟩ := h
   refine drq (by kernel_rfl) [0, 1, 2, 3, 4, 5, 6, 7, 8, 9, 10, 11, 12, 13, 14, 15, 16, 17, 18] (ob := (Ts 5 (Ti 5 ((decide ((((g.2.2.2.getD (v8).toNat ((0 : Int), ([] : LI))).2).length : Int) = (0 : Int))) = false → True) (((decide ((((g.2.2.2.getD (v8).toNat ((0 : Int), ([] : LI))).2).length : Int) = (0 : Int))) = false → ((decide ((((g.2.2.2.getD (v8).toNat ((0 : Int), ([] : LI))).2).length : Int) = (1 : Int))) = true → True)) ∧ ((decide ((((g.2.2.2.getD (v8).toNat ((0 : Int), ([] : LI))).2).length : Int) = (0 : Int))) = false → ((decide ((((g.2.2.2.getD (v8).toNat ((0 : Int), ([] : LI))).2).length : Int) = (1 : Int))) = true → True)) ∧ ((decide ((((g.2.2.2.getD (v8).toNat ((0 : Int), ([] : LI))).2).length : Int) = (0 : Int))) = false → ((decide ((((g.2.2.2.getD (v8).toNat ((0 : Int), ([] : LI))).2).length : Int) = (1 : Int))) = true → inIdx (0 : Int) ((g.2.2.2.getD (v8).toNat ((0 : Int), ([] : LI))).2).length)) ∧ ((decide ((((g.2.2.2.getD (v8).toNat ((0 : Int), ([] : LI))).2).length : Int) = (0 : Int))) = false → ((decide ((((g.2.2.2.getD (v8).toNat ((0 : Int), ([] : LI))).2).length : Int) = (1 : Int))) = true → True)) ∧ ((decide ((((g.2.2.2.getD (v8).toNat ((0 : Int), ([] : LI))).2).length : Int) = (0 : Int))) = false → ((decide ((((g.2.2.2.getD (v8).toNat ((0 : Int), ([] : LI))).2).length : Int) = (1 : Int))) = true → True)) ∧ ((decide ((((g.2.2.2.getD (v8).toNat ((0 : Int), ([] : LI))).2).length : Int) = (0 : Int))) = false → ((decide ((((g.2.2.2.getD (v8).toNat ((0 : Int), ([] : LI))).2).length : Int) = (1 : Int))) = true → True)) ∧ ((decide ((((g.2.2.2.getD (v8).toNat ((0 : Int), ([] : LI))).2).length : Int) = (0 : Int))) = false → ((decide ((((g.2.2.2.getD (v8).toNat ((0 : Int), ([] : LI))).2).length : Int) = (1 : Int))) = true → True)) ∧ ((decide ((((g.2.2.2.getD (v8).toNat ((0 : Int), ([] : LI))).2).length : Int) = (0 : Int))) = false → True) ∧ Ts 1 True)))) (done' := [18, 17, 16, 15, 14, 13, 12, 11, 10, 9, 8, 7, 6, 5, 4, 3, 2, 1, 0]) (st' := (⟨32, [sp 1 1, e19_1 g, e19_2 g, sI 8 v8, sB 30 ((decide ((((g.2.2.2.getD (v8).toNat ((0 : Int), ([] : LI))).2).length : Int) = (0 : Int))) || ((decide ((((g.2.2.2.getD (v8).toNat ((0 : Int), ([] : LI))).2).length : Int) = (1 : Int))) && (decide (g.1 ≤ (((g.2.2.2.getD (v8).toNat ((0 : Int), ([] : LI))).2).getD ((0 : Int)).toNat (0 : Int))))))], [e19_0 g]⟩ : St)) (by kernel_rfl) (tsI 5 (tiI 5 (fun _ => trivial) (tiI 2 (fun _ _ => trivial) (⟨o1, tiI 4 (fun _ _ => trivial) ⟨(fun _ => trivial), tsI 1 trivial⟩⟩)))) ?_
   refine awd_done (by kernel_rfl) ?_
   refine thenQ_n ?_
   refine aw_cond (b := ((decide ((((g.2.2.2.getD (v8).toNat ((0 : Int), ([] : LI))).2).length : Int) = (0 : Int))) || ((decide ((((g.2.2.2.getD (v8).toNat ((0 : Int), ([] : LI))).2).length : Int) = (1 : Int))) && (decide (g.1 ≤ (((g.2.2.2.getD (v8).toNat ((0 : Int), ([] : LI))).2).getD ((0 : Int)).toNat (0 : Int))))))) (by kernel_rfl) (fun hb => ?_) (fun hb => ?_)
   ·have h := h.1 hb
    refine srn 1 ⟨32, [sB 2 false], []⟩ (by kernel_rfl) rfl ?_
    refine aw_ret ?_
    refine blockQ_r ?_
    refine thenQ_r ?_
    refine thenQ_r ?_
    refine blockQ_r ?_
    refine thenQ_r ?_
    exact retQ_r (ob := Ts 1 True) _ (by kernel_rfl) (tsI 1 trivial) h
   ·have h := h.2 hb
    refine aw_skip ?_
    refine blockQ_n ?_
    refine thenQ_n ?_
    refine aw_region ?_
    obtain ⟨o1, h⟩ := h
    refine rq 2 (ob := (InR (v8 + (1 : Int)) ∧ Ts 1 True)) (st' := (⟨32, [sp 1 1, e19_1 g, e19_2 g, sI 8 (v8 + (1 : Int))], [e19_0 g]⟩ : St)) (by kernel_rfl) (⟨o1, tsI 1 trivial⟩) ?_
    refine awl_nil ?_
    exact thenQ_n ⟨(v8 + (1 : Int)), rfl, h⟩
  ·have h := h.2 hb
   refine cpr (st' := (⟨32, [], []⟩ : St)) (by kernel_rfl) ?_
   refine aw_exit ?_
   refine thenQ_x ?_
   refine thenQ_x ?_
   refine blockQ_hit ?_
   exact rest1 () h
-- coppicer/coppicerref.capped
def VC65 (a : Int) (b : Int) (K : Int → Prop) : Prop :=
  ((((decide (a = (0 : Int))) || (decide (b = (0 : Int)))) = true → K (0 : Int)) ∧ (((decide (a = (0 : Int))) || (decide (b = (0 : Int)))) = false → ((0 ≤ (1099511627777 : Int) ∧ 0 < b) ∧ (((decide (((1099511627777 : Int) / b) < a)) = true → K (1099511627777 : Int)) ∧ ((decide (((1099511627777 : Int) / b) < a)) = false → (InR (a * b) ∧ K (a * b)))))))
set_option maxHeartbeats 4000000 in
theorem link65 (a : Int) (b : Int) (K : Int → Prop) (h : VC65 a b K) : ACalls Try.prog 65 [toV1 tI a, toV1 tI b] (fun res => ∃ y, res = (fun y => [toV1 tI y]) y ∧ K y) := by
 refine acalls_of_aw [tI] [.t 4] Try.func65 rfl rfl rfl ?_
 unfold VC65 at h
 refine srn 1 ⟨18, [sI 0 a, sI 1 b], []⟩ (by kernel_rfl) rfl ?_
 refine aw_seq ?_
 refine sr ?_
 refine rq 6 (ob := (Ts 3 (Ti 2 ((decide (a = (0 : Int))) = false → True) (Ts 1 True)))) (st' := (⟨18, [sI 0 a, sI 1 b, sB 10 ((decide (a = (0 : Int))) || (decide (b = (0 : Int))))], []⟩ : St)) (by kernel_rfl) (tsI 3 (tiI 2 (fun _ => trivial) (tsI 1 trivial))) ?_
 refine nn ?_
 refine aw_cond (b := ((decide (a = (0 : Int))) || (decide (b = (0 : Int))))) (by kernel_rfl) (fun hb => ?_) (fun hb => ?_)
 ·have h := h.1 hb
  refine srn 1 ⟨18, [sI 4 (0 : Int)], []⟩ (by kernel_rfl) rfl ?_
  refine aw_ret ?_
  refine thenQ_r ?_
  exact retQ_r (ob := Ts 1 True) _ (by kernel_rfl) (tsI 1 trivial) h
 ·have h := h.2 hb
  refine aw_skip ?_
  refine thenQ_n ?_
  refine aw_seq ?_
  refine sr ?_
  obtain ⟨o1, h⟩ := h
  refine rq 4 (ob := (Ts 2 ((0 ≤ (1099511627777 : Int) ∧ 0 < b) ∧ Ts 1 True))) (st' := (⟨18, [sI 0 a, sI 1 b, sB 14 (decide (((1099511627777 : Int) / b) < a))], []⟩ : St)) (by kernel_rfl) (tsI 2 ⟨o1, tsI 1 trivial⟩) ?_
  refine nn ?_
  refine aw_cond (b := (decide (((1099511627777 : Int) / b) < a))) (by kernel_rfl) (fun hb => ?_) (fun hb => ?_)
  ·have h := h.1 hb
   refine srn 1 ⟨18, [sI 4 (1099511627777 : Int)], []⟩ (by kernel_rfl) rfl ?_
   refine aw_ret ?_
   refine thenQ_r ?_
   exact retQ_r (ob := Ts 1 True) _ (by kernel_rfl) (tsI 1 trivial) h
  ·have h := h.2 hb
   refine aw_skip ?_
   refine thenQ_n ?_
   refine sr ?_
   obtain ⟨o1, h⟩ := h
   refine rq 4 (ob := (Ts 2 (InR (a * b) ∧ Ts 1 True))) (st' := (⟨18, [sI 4 (a * b)], []⟩ : St)) (by kernel_rfl) (tsI 2 ⟨o1, tsI 1 trivial⟩) ?_
   refine nn ?_
   refine aw_ret ?_
   exact retQ_r (ob := Ts 1 True) _ (by kernel_rfl) (tsI 1 trivial) h
abbrev e7_0 (c0 : Int) (c1 : Int) (c2 : Int) (c3 : LR) (c4 : LI) : Nat × Path × Con := hB 70100 [.pI c0, .pI c1, .pI c2, .p (.sl tR) c3, .pS c4, .own 70101]
abbrev e7_1 (b : LI) : Nat × Path × AV := sI 1 (b.getD ((0 : Int)).toNat (0 : Int))
abbrev e7_2 (c5 : (List (LI × Int))) : Nat × Path × Con := (70101, [], .dict (.ar 2 tI) tI c5)
abbrev e7_3 (c3 : LR) : Nat × Path × AV := s1 56 (.p (.sl tR) c3)
abbrev e7_4 (l701012 : (List (LI × Int))) : Nat × Path × Con := (70101, [], .dict (.ar 2 tI) tI l701012)
abbrev e7_5 (ret46v : Int × (List (LI × Int))) : Nat × Path × Con := (70101, [], .dict (.ar 2 tI) tI ret46v.2)
abbrev e7_6 (l70101 : (List (LI × Int))) : Nat × Path × Con := (70101, [], .dict (.ar 2 tI) tI l70101)
abbrev e7_7 : Nat × Path × AV := sp 156 70100
abbrev e7_8 : Nat × Path × AV := sp 0 70100
abbrev e7_9 (c3 : LR) : Nat × Path × AV := sI 57 (c3.length : Int)
abbrev e7_10 (ret46v : Int × (List (LI × Int))) : Nat × Path × AV := sI 104 ret46v.1
abbrev e7_11 (ret78v : Int × (List (LI × Int))) : Nat × Path × Con := (70101, [], .dict (.ar 2 tI) tI ret78v.2)
abbrev e7_12 (c3 : LR) (v58 : Int) : Nat × Path × Con := hB 12 [.pI ((c3.getD (v58).toNat ((0 : Int), ([] : LI))).1), .pS ((c3.getD (v58).toNat ((0 : Int), ([] : LI))).2)]
abbrev e7_13 (b : LI) : Nat × Path × AV := s1 94 (.pS b)
abbrev e7_14 : Nat × Path × AV := sp 63 70100
abbrev e7_15 : Nat × Path × AV := sp 93 70100
abbrev e7_16 (b : LI) : Nat × Path × AV := s1 1 (.pS b)
abbrev e7_17 (ret46v : Int × (List (LI × Int))) (b : LI) (signs : Int) (m : Int) : Nat × Path × AV := sI 9 ((mget ret46v.2 [(b.getD ((0 : Int)).toNat (0 : Int)), signs, m]).getD (0 : Int))
abbrev e7_18 (c5 : (List (LI × Int))) (b : LI) (signs : Int) (i : Int) : Nat × Path × AV := sI 9 ((mget c5 [(b.getD ((0 : Int)).toNat (0 : Int)), signs, i]).getD (0 : Int))
abbrev e7_19 (c3 : LR) (v58 : Int) : Nat × Path × AV := s1 75 (.pS ((c3.getD (v58).toNat ((0 : Int), ([] : LI))).2))
abbrev e7_20 : Nat × Path × AV := sI 8 (0 : Int)
abbrev e7_21 : Nat × Path × AV := sI 9 (1099511627777 : Int)
-- (*coppicer/coppicerref.Bush).Row
def VCc43_k1 (K : Int × (List (LI × Int)) → Prop) (v8 : Int) (l70101 : (List (LI × Int))) : Prop :=
  K (v8, l70101)
def VCc43_k3 (b : LI) (signs : Int) (i : Int) (K : Int × (List (LI × Int)) → Prop) (l70101 : (List (LI × Int))) (n2 : Int) : Prop :=
  VCc43_k1 K n2 (mset l70101 [(b.getD ((0 : Int)).toNat (0 : Int)), signs, i] n2)
def VCc43_k2 (b : LI) (signs : Int) (i : Int) (K : Int × (List (LI × Int)) → Prop) (n : Int) (l70101 : (List (LI × Int))) : Prop :=
  (((decide ((1099511627776 : Int) < n)) = true → VCc43_k3 b signs i K l70101 (1099511627777 : Int)) ∧ ((decide ((1099511627776 : Int) < n)) = false → VCc43_k3 b signs i K l70101 n))
def VCc43_k4 (v58 : Int) (X1 : Int × Int × (List (LI × Int)) → Prop) (n2 : Int) (l701012 : (List (LI × Int))) : Prop :=
  (InR (v58 + (1 : Int)) ∧ X1 (n2, (v58 + (1 : Int)), l701012))
def VCc43_l1 (c0 : Int) (c3 : LR) (R : LI → Int → Int → (List (LI × Int)) → (Int × (List (LI × Int)) → Prop) → Prop) (b : LI) (signs : Int) (i : Int) (K : Int × (List (LI × Int)) → Prop) (n : Int) (v58 : Int) (l70101 : (List (LI × Int))) (X1 : Int × Int × (List (LI × Int)) → Prop) : Prop :=
  (((decide (v58 < (c3.length : Int))) = true → (inIdx v58 c3.length ∧ (InR ((b.getD ((0 : Int)).toNat (0 : Int)) - c0) ∧ (((decide ((c3.getD (v58).toNat ((0 : Int), ([] : LI))).1 = ((b.getD ((0 : Int)).toNat (0 : Int)) - c0))) = true → R ((c3.getD (v58).toNat ((0 : Int), ([] : LI))).2) signs i l70101 (fun (ret78v : Int × (List (LI × Int))) => (InR (n + ret78v.1) ∧ VCc43_k4 v58 X1 (n + ret78v.1) ret78v.2))) ∧ ((decide ((c3.getD (v58).toNat ((0 : Int), ([] : LI))).1 = ((b.getD ((0 : Int)).toNat (0 : Int)) - c0))) = false → VCc43_k4 v58 X1 n l70101))))) ∧ ((decide (v58 < (c3.length : Int))) = false → VCc43_k2 b signs i K n l70101))
def VCc43_k5 (K : Int × (List (LI × Int)) → Prop) (sumv : Int) (l70101 : (List (LI × Int))) : Prop :=
  K (sumv, l70101)
def VCc43_k7 (m : Int) (X2 : Int × Int × (List (LI × Int)) → Prop) (l701012 : (List (LI × Int))) (sumv3 : Int) : Prop :=
  (InR (m + (1 : Int)) ∧ X2 (sumv3, (m + (1 : Int)), l701012))
def VCc43_k6 (m : Int) (X2 : Int × Int × (List (LI × Int)) → Prop) (sumv2 : Int) (l701012 : (List (LI × Int))) : Prop :=
  (((decide ((1099511627776 : Int) < sumv2)) = true → VCc43_k7 m X2 l701012 (1099511627777 : Int)) ∧ ((decide ((1099511627776 : Int) < sumv2)) = false → VCc43_k7 m X2 l701012 sumv2))
def VCc43_k8 (sumv : Int) (m : Int) (X2 : Int × Int × (List (LI × Int)) → Prop) (ret46v : Int × (List (LI × Int))) (v8 : Int) (l701012 : (List (LI × Int))) : Prop :=
  VC65 v8 ret46v.1 (fun (ret58v : Int) => (InR (sumv + ret58v) ∧ VCc43_k6 m X2 (sumv + ret58v) l701012))
def VCc43_k10 (b : LI) (signs : Int) (sumv : Int) (m : Int) (X2 : Int × Int × (List (LI × Int)) → Prop) (ret46v : Int × (List (LI × Int))) (l701012 : (List (LI × Int))) (n2 : Int) : Prop :=
  VCc43_k8 sumv m X2 ret46v n2 (mset l701012 [(b.getD ((0 : Int)).toNat (0 : Int)), signs, m] n2)
def VCc43_k9 (b : LI) (signs : Int) (sumv : Int) (m : Int) (X2 : Int × Int × (List (LI × Int)) → Prop) (ret46v : Int × (List (LI × Int))) (n : Int) (l701012 : (List (LI × Int))) : Prop :=
  (((decide ((1099511627776 : Int) < n)) = true → VCc43_k10 b signs sumv m X2 ret46v l701012 (1099511627777 : Int)) ∧ ((decide ((1099511627776 : Int) < n)) = false → VCc43_k10 b signs sumv m X2 ret46v l701012 n))
def VCc43_k11 (v58 : Int) (X3 : Int × Int × (List (LI × Int)) → Prop) (n2 : Int) (l701013 : (List (LI × Int))) : Prop :=
  (InR (v58 + (1 : Int)) ∧ X3 (n2, (v58 + (1 : Int)), l701013))
def VCc43_l3 (c0 : Int) (c3 : LR) (R : LI → Int → Int → (List (LI × Int)) → (Int × (List (LI × Int)) → Prop) → Prop) (b : LI) (signs : Int) (sumv : Int) (m : Int) (X2 : Int × Int × (List (LI × Int)) → Prop) (ret46v : Int × (List (LI × Int))) (n : Int) (v58 : Int) (l701012 : (List (LI × Int))) (X3 : Int × Int × (List (LI × Int)) → Prop) : Prop :=
  (((decide (v58 < (c3.length : Int))) = true → (inIdx v58 c3.length ∧ (InR ((b.getD ((0 : Int)).toNat (0 : Int)) - c0) ∧ (((decide ((c3.getD (v58).toNat ((0 : Int), ([] : LI))).1 = ((b.getD ((0 : Int)).toNat (0 : Int)) - c0))) = true → R ((c3.getD (v58).toNat ((0 : Int), ([] : LI))).2) signs m l701012 (fun (ret78v : Int × (List (LI × Int))) => (InR (n + ret78v.1) ∧ VCc43_k11 v58 X3 (n + ret78v.1) ret78v.2))) ∧ ((decide ((c3.getD (v58).toNat ((0 : Int), ([] : LI))).1 = ((b.getD ((0 : Int)).toNat (0 : Int)) - c0))) = false → VCc43_k11 v58 X3 n l701012))))) ∧ ((decide (v58 < (c3.length : Int))) = false → VCc43_k9 b signs sumv m X2 ret46v n l701012))
def VCc43_l2 (c0 : Int) (c3 : LR) (c4 : LI) (R : LI → Int → Int → (List (LI × Int)) → (Int × (List (LI × Int)) → Prop) → Prop) (b : LI) (signs : Int) (i : Int) (K : Int × (List (LI × Int)) → Prop) (sumv : Int) (m : Int) (l70101 : (List (LI × Int))) (X2 : Int × Int × (List (LI × Int)) → Prop) : Prop :=
  (((decide (m < i)) = true → ((0 ≤ (1 : Int) ∧ (1 : Int) ≤ (b.length : Int)) ∧ R (b.drop ((1 : Int)).toNat) m i l70101 (fun (ret46v : Int × (List (LI × Int))) => (((decide ((0 : Int) < ret46v.1)) = true → (inIdx (0 : Int) b.length ∧ (((decide ((b.getD ((0 : Int)).toNat (0 : Int)) < c0)) = true → (InR (signs + (1 : Int)) ∧ ((decide (m = (signs + (1 : Int)))) = true → inIdx signs c4.length) ∧ ((((decide (m = (signs + (1 : Int)))) && (decide ((c4.getD (signs).toNat (0 : Int)) = (b.getD ((0 : Int)).toNat (0 : Int))))) = true → VCc43_k8 sumv m X2 ret46v (1 : Int) ret46v.2) ∧ (((decide (m = (signs + (1 : Int)))) && (decide ((c4.getD (signs).toNat (0 : Int)) = (b.getD ((0 : Int)).toNat (0 : Int))))) = false → VCc43_k8 sumv m X2 ret46v (0 : Int) ret46v.2)))) ∧ ((decide ((b.getD ((0 : Int)).toNat (0 : Int)) < c0)) = false → (((decide (signs = m)) = true → VCc43_k8 sumv m X2 ret46v (0 : Int) ret46v.2) ∧ ((decide (signs = m)) = false → (((mget ret46v.2 [(b.getD ((0 : Int)).toNat (0 : Int)), signs, m]).isSome = true → VCc43_k8 sumv m X2 ret46v ((mget ret46v.2 [(b.getD ((0 : Int)).toNat (0 : Int)), signs, m]).getD (0 : Int)) ret46v.2) ∧ ((mget ret46v.2 [(b.getD ((0 : Int)).toNat (0 : Int)), signs, m]).isSome = false → Loop (σ := Int × Int × (List (LI × Int))) (fun s X => VCc43_l3 c0 c3 R b signs sumv m X2 ret46v s.1 s.2.1 s.2.2 X) (((mget ret46v.2 [(b.getD ((0 : Int)).toNat (0 : Int)), signs, m]).getD (0 : Int)), (0 : Int), ret46v.2))))))))) ∧ ((decide ((0 : Int) < ret46v.1)) = false → VCc43_k6 m X2 sumv ret46v.2))))) ∧ ((decide (m < i)) = false → VCc43_k5 K sumv l70101))
def VCc43 (c0 : Int) (c1 : Int) (c2 : Int) (c3 : LR) (c4 : LI) (R : LI → Int → Int → (List (LI × Int)) → (Int × (List (LI × Int)) → Prop) → Prop) (b : LI) (signs : Int) (i : Int) (c5 : (List (LI × Int))) (K : Int × (List (LI × Int)) → Prop) : Prop :=
  (InR (i - signs) ∧ (((decide ((i - signs) < (b.length : Int))) = true → K ((0 : Int), c5)) ∧ ((decide ((i - signs) < (b.length : Int))) = false → (((decide ((b.length : Int) = (0 : Int))) = true → (((decide (signs = i)) = true → K ((1 : Int), c5)) ∧ ((decide (signs = i)) = false → K ((0 : Int), c5)))) ∧ ((decide ((b.length : Int) = (0 : Int))) = false → (((decide ((b.length : Int) = (1 : Int))) = true → (inIdx (0 : Int) b.length ∧ (((decide ((b.getD ((0 : Int)).toNat (0 : Int)) < c0)) = true → (InR (signs + (1 : Int)) ∧ ((decide (i = (signs + (1 : Int)))) = true → inIdx signs c4.length) ∧ ((((decide (i = (signs + (1 : Int)))) && (decide ((c4.getD (signs).toNat (0 : Int)) = (b.getD ((0 : Int)).toNat (0 : Int))))) = true → VCc43_k1 K (1 : Int) c5) ∧ (((decide (i = (signs + (1 : Int)))) && (decide ((c4.getD (signs).toNat (0 : Int)) = (b.getD ((0 : Int)).toNat (0 : Int))))) = false → VCc43_k1 K (0 : Int) c5)))) ∧ ((decide ((b.getD ((0 : Int)).toNat (0 : Int)) < c0)) = false → (((decide (signs = i)) = true → VCc43_k1 K (0 : Int) c5) ∧ ((decide (signs = i)) = false → (((mget c5 [(b.getD ((0 : Int)).toNat (0 : Int)), signs, i]).isSome = true → VCc43_k1 K ((mget c5 [(b.getD ((0 : Int)).toNat (0 : Int)), signs, i]).getD (0 : Int)) c5) ∧ ((mget c5 [(b.getD ((0 : Int)).toNat (0 : Int)), signs, i]).isSome = false → Loop (σ := Int × Int × (List (LI × Int))) (fun s X => VCc43_l1 c0 c3 R b signs i K s.1 s.2.1 s.2.2 X) (((mget c5 [(b.getD ((0 : Int)).toNat (0 : Int)), signs, i]).getD (0 : Int)), (0 : Int), c5))))))))) ∧ ((decide ((b.length : Int) = (1 : Int))) = false → (InR (signs + (1 : Int)) ∧ Loop (σ := Int × Int × (List (LI × Int))) (fun s X => VCc43_l2 c0 c3 c4 R b signs i K s.1 s.2.1 s.2.2 X) ((0 : Int), (signs + (1 : Int)), c5)))))))))
set_option maxHeartbeats 4000000 in
theorem linkc43 (c0 : Int) (c1 : Int) (c2 : Int) (c3 : LR) (c4 : LI) (R : LI → Int → Int → (List (LI × Int)) → (Int × (List (LI × Int)) → Prop) → Prop) (hR : ∀ (b : LI) (signs : Int) (i : Int) (c5 : (List (LI × Int))) (K : Int × (List (LI × Int)) → Prop), R b signs i c5 K → LCalls Try.prog 43 [70100, 70101] [70100] [e7_0 c0 c1 c2 c3 c4, e7_2 c5] [.c (.ptr 70100 0), .c (.pS b), .c (.pI signs), .c (.pI i)] (fun av hp' => ∃ y : Int × (List (LI × Int)), av = .v (.c (.pI y.1)) ∧ hp' = [e7_0 c0 c1 c2 c3 c4, (70101, [], .dict (.ar 2 tI) tI y.2)] ∧ K y)) (b : LI) (signs : Int) (i : Int) (c5 : (List (LI × Int))) (K : Int × (List (LI × Int)) → Prop) (h : VCc43 c0 c1 c2 c3 c4 R b signs i c5 K) : LCalls Try.prog 43 [70100, 70101] [70100] [e7_0 c0 c1 c2 c3 c4, e7_2 c5] [.c (.ptr 70100 0), .c (.pS b), .c (.pI signs), .c (.pI i)] (fun av hp' => ∃ y : Int × (List (LI × Int)), av = .v (.c (.pI y.1)) ∧ hp' = [e7_0 c0 c1 c2 c3 c4, (70101, [], .dict (.ar 2 tI) tI y.2)] ∧ K y) := by
 refine lcalls_of_aw [70100, 70101] [70100] [.t 8] Try.func43 rfl rfl (by kernel_rfl) (by kernel_rfl) (by kernel_rfl) ?_
 refine aw_conv [] (st' := (⟨63, [e7_8, e7_16 b, sI 2 signs, sI 3 i, e7_14], [e7_0 c0 c1 c2 c3 c4, e7_2 c5]⟩ : St)) (by kernel_rfl) ?_
 unfold VCc43 at h
 refine srn 1 ⟨63, [e7_8, e7_16 b, sI 2 signs, sI 3 i, e7_14], [e7_0 c0 c1 c2 c3 c4, e7_2 c5]⟩ (by kernel_rfl) rfl ?_
 refine aw_seq ?_
 refine sr ?_
 obtain ⟨o1, h⟩ := h
 refine rq 6 (ob := (Ts 4 (InR (i - signs) ∧ Ts 1 True))) (st' := (⟨63, [e7_8, e7_16 b, sI 2 signs, sI 3 i, sB 17 (decide ((i - signs) < (b.length : Int))), e7_14], [e7_0 c0 c1 c2 c3 c4, e7_2 c5]⟩ : St)) (by kernel_rfl) (tsI 4 ⟨o1, tsI 1 trivial⟩) ?_
 refine nn ?_
 refine aw_cond (b := (decide ((i - signs) < (b.length : Int)))) (by kernel_rfl) (fun hb => ?_) (fun hb => ?_)
 ·have h := h.1 hb
  refine srn 1 ⟨63, [e7_20, e7_14], [e7_0 c0 c1 c2 c3 c4, e7_2 c5]⟩ (by kernel_rfl) rfl ?_
  refine aw_ret ?_
  refine thenQ_r ?_
  exact lret_r (σ := Int × (List (LI × Int))) (A := fun y => .v (.c (.pI y.1))) (H := fun y => [e7_0 c0 c1 c2 c3 c4, (70101, [], .dict (.ar 2 tI) tI y.2)]) (ob := True) ((0 : Int), c5) (by kernel_rfl) trivial rfl (by kernel_rfl) (by kernel_rfl) (by kernel_rfl) h
 ·have h := h.2 hb
  refine aw_skip ?_
  refine thenQ_n ?_
  refine aw_seq ?_
  refine srn 3 ⟨63, [e7_8, e7_16 b, sI 2 signs, sI 3 i, sB 20 (decide ((b.length : Int) = (0 : Int))), e7_14], [e7_0 c0 c1 c2 c3 c4, e7_2 c5]⟩ (by kernel_rfl) rfl ?_
  refine aw_cond (b := (decide ((b.length : Int) = (0 : Int)))) (by kernel_rfl) (fun hb => ?_) (fun hb => ?_)
  ·have h := h.1 hb
   refine aw_seq ?_
   refine srn 3 ⟨63, [sB 23 (decide (signs = i)), e7_14], [e7_0 c0 c1 c2 c3 c4, e7_2 c5]⟩ (by kernel_rfl) rfl ?_
   refine aw_cond (b := (decide (signs = i))) (by kernel_rfl) (fun hb => ?_) (fun hb => ?_)
   ·have h := h.1 hb
    refine srn 1 ⟨63, [sI 8 (1 : Int), e7_14], [e7_0 c0 c1 c2 c3 c4, e7_2 c5]⟩ (by kernel_rfl) rfl ?_
    refine aw_ret ?_
    refine thenQ_r ?_
    refine thenQ_r ?_
    exact lret_r (σ := Int × (List (LI × Int))) (A := fun y => .v (.c (.pI y.1))) (H := fun y => [e7_0 c0 c1 c2 c3 c4, (70101, [], .dict (.ar 2 tI) tI y.2)]) (ob := True) ((1 : Int), c5) (by kernel_rfl) trivial rfl (by kernel_rfl) (by kernel_rfl) (by kernel_rfl) h
   ·have h := h.2 hb
    refine aw_skip ?_
    refine thenQ_n ?_
    refine srn 1 ⟨63, [e7_20, e7_14], [e7_0 c0 c1 c2 c3 c4, e7_2 c5]⟩ (by kernel_rfl) rfl ?_
    refine aw_ret ?_
    refine thenQ_r ?_
    exact lret_r (σ := Int × (List (LI × Int))) (A := fun y => .v (.c (.pI y.1))) (H := fun y => [e7_0 c0 c1 c2 c3 c4, (70101, [], .dict (.ar 2 tI) tI y.2)]) (ob := True) ((0 : Int), c5) (by kernel_rfl) trivial rfl (by kernel_rfl) (by kernel_rfl) (by kernel_rfl) h
  ·have h := h.2 hb
   refine aw_skip ?_
   refine thenQ_n ?_
   refine aw_seq ?_
   refine srn 3 ⟨63, [e7_8, e7_16 b, sI 2 signs, sI 3 i, sB 26 (decide ((b.length : Int) = (1 : Int))), e7_14], [e7_0 c0 c1 c2 c3 c4, e7_2 c5]⟩ (by kernel_rfl) rfl ?_
   refine aw_cond (b := (decide ((b.length : Int) = (1 : Int)))) (by kernel_rfl) (fun hb => ?_) (fun hb => ?_)
   ·have h := h.1 hb
    refine sr ?_
    obtain ⟨o1, h⟩ := h
    refine rq 6 (ob := (Ts 2 (inIdx (0 : Int) b.length ∧ Ts 3 True))) (st' := (⟨63, [sp 27 70100, sI 30 (b.getD ((0 : Int)).toNat (0 : Int)), sI 31 signs, sI 32 i, e7_14], [e7_0 c0 c1 c2 c3 c4, e7_2 c5]⟩ : St)) (by kernel_rfl) (tsI 2 ⟨o1, tsI 3 trivial⟩) ?_
    refine awl_inlr [.t 8] [70100, 70101] [.c (.ptr 70100 0), .c (.pI (b.getD ((0 : Int)).toNat (0 : Int))), .c (.pI signs), .c (.pI i)] [] rfl rfl (by kernel_rfl) rfl (by kernel_rfl) Try.call21 (by kernel_rfl) (by kernel_rfl) Try.func21 rfl rfl (by kernel_rfl) ?_
    refine aw_conv [] (st' := (⟨93, [e7_8, e7_1 b, sI 2 signs, sI 3 i, sp 120 70100, sI 123 (b.getD ((0 : Int)).toNat (0 : Int)), sI 124 signs, sI 125 i, e7_7], [e7_0 c0 c1 c2 c3 c4, e7_2 c5]⟩ : St)) (by kernel_rfl) ?_
    refine withJoinR (σ := Int × (List (LI × Int))) (fun s => (⟨93, [sI 8 s.1, e7_7], [e7_0 c0 c1 c2 c3 c4, (70101, [], .dict (.ar 2 tI) tI s.2)]⟩ : St)) (fun s => VCc43_k1 K s.1 s.2) (fun s h => ?_) (fun rest1 => ?_)
    ·obtain ⟨v8, l70101⟩ := s
     have h : VCc43_k1 K v8 l70101 := h
     unfold VCc43_k1 at h
     refine inlR_n (ob := True) (.v (.c (.pI v8))) (by kernel_rfl) trivial rfl ?_
     refine lpr (st' := (⟨63, [sI 33 v8, e7_14], [e7_0 c0 c1 c2 c3 c4, e7_6 l70101]⟩ : St)) (by kernel_rfl) ?_
     refine rqT 1 ⟨63, [sI 8 v8, e7_14], [e7_0 c0 c1 c2 c3 c4, e7_6 l70101]⟩ (by kernel_rfl) ?_
     refine nn ?_
     refine aw_ret ?_
     refine thenQ_r ?_
     exact lret_r (σ := Int × (List (LI × Int))) (A := fun y => .v (.c (.pI y.1))) (H := fun y => [e7_0 c0 c1 c2 c3 c4, (70101, [], .dict (.ar 2 tI) tI y.2)]) (ob := True) (v8, l70101) (by kernel_rfl) trivial rfl (by kernel_rfl) (by kernel_rfl) (by kernel_rfl) h
    ·refine srn 1 ⟨93, [e7_8, e7_1 b, sI 2 signs, sI 3 i, e7_7], [e7_0 c0 c1 c2 c3 c4, e7_2 c5]⟩ (by kernel_rfl) rfl ?_
     refine aw_seq ?_
     refine srn 7 ⟨93, [e7_8, e7_1 b, sI 2 signs, sI 3 i, sB 19 (decide ((b.getD ((0 : Int)).toNat (0 : Int)) < c0)), e7_7], [e7_0 c0 c1 c2 c3 c4, e7_2 c5]⟩ (by kernel_rfl) rfl ?_
     refine aw_cond (b := (decide ((b.getD ((0 : Int)).toNat (0 : Int)) < c0))) (by kernel_rfl) (fun hb => ?_) (fun hb => ?_)
     ·have h := h.1 hb
      refine aw_seq ?_
      refine sr ?_
      obtain ⟨o1, o2, h⟩ := h
      refine rq 15 (ob := (Ts 2 (InR (signs + (1 : Int)) ∧ Ts 2 (Ti 5 ((decide (i = (signs + (1 : Int)))) = true → True) (((decide (i = (signs + (1 : Int)))) = true → inIdx signs c4.length) ∧ Ti 3 ((decide (i = (signs + (1 : Int)))) = true → True) (Ts 1 True)))))) (st' := (⟨93, [sB 34 ((decide (i = (signs + (1 : Int)))) && (decide ((c4.getD (signs).toNat (0 : Int)) = (b.getD ((0 : Int)).toNat (0 : Int))))), e7_7], [e7_0 c0 c1 c2 c3 c4, e7_2 c5]⟩ : St)) (by kernel_rfl) (tsI 2 (⟨o1, tsI 2 (tiI 5 (fun _ => trivial) ⟨o2, tiI 3 (fun _ => trivial) (tsI 1 trivial)⟩)⟩)) ?_
      refine nn ?_
      refine aw_cond (b := ((decide (i = (signs + (1 : Int)))) && (decide ((c4.getD (signs).toNat (0 : Int)) = (b.getD ((0 : Int)).toNat (0 : Int)))))) (by kernel_rfl) (fun hb => ?_) (fun hb => ?_)
      ·have h := h.1 hb
       refine srn 1 ⟨93, [sI 8 (1 : Int), e7_7], [e7_0 c0 c1 c2 c3 c4, e7_2 c5]⟩ (by kernel_rfl) rfl ?_
       refine aw_ret ?_
       refine thenQ_r ?_
       refine thenQ_r ?_
       exact rest1 ((1 : Int), c5) h
      ·have h := h.2 hb
       refine aw_skip ?_
       refine thenQ_n ?_
       refine srn 1 ⟨93, [e7_20, e7_7], [e7_0 c0 c1 c2 c3 c4, e7_2 c5]⟩ (by kernel_rfl) rfl ?_
       refine aw_ret ?_
       refine thenQ_r ?_
       exact rest1 ((0 : Int), c5) h
     ·have h := h.2 hb
      refine aw_skip ?_
      refine thenQ_n ?_
      refine aw_seq ?_
      refine srn 3 ⟨93, [e7_8, e7_1 b, sI 2 signs, sI 3 i, sB 37 (decide (signs = i)), e7_7], [e7_0 c0 c1 c2 c3 c4, e7_2 c5]⟩ (by kernel_rfl) rfl ?_
      refine aw_cond (b := (decide (signs = i))) (by kernel_rfl) (fun hb => ?_) (fun hb => ?_)
      ·have h := h.1 hb
       refine srn 1 ⟨93, [e7_20, e7_7], [e7_0 c0 c1 c2 c3 c4, e7_2 c5]⟩ (by kernel_rfl) rfl ?_
       refine aw_ret ?_
       refine thenQ_r ?_
       exact rest1 ((0 : Int), c5) h
      ·have h := h.2 hb
       refine aw_skip ?_
       refine thenQ_n ?_
       refine srn 14 ⟨93, [e7_8, e7_1 b, sI 2 signs, sI 3 i, e7_18 c5 b signs i, sB 10 ((mget c5 [(b.getD ((0 : Int)).toNat (0 : Int)), signs, i]).isSome), e7_7], [e7_0 c0 c1 c2 c3 c4, e7_2 c5]⟩ (by kernel_rfl) rfl ?_
       refine aw_seq ?_
       refine srn 1 ⟨93, [e7_8, e7_1 b, sI 2 signs, sI 3 i, e7_18 c5 b signs i, sB 50 ((mget c5 [(b.getD ((0 : Int)).toNat (0 : Int)), signs, i]).isSome), e7_7], [e7_0 c0 c1 c2 c3 c4, e7_2 c5]⟩ (by kernel_rfl) rfl ?_
       refine aw_cond (b := (mget c5 [(b.getD ((0 : Int)).toNat (0 : Int)), signs, i]).isSome) (by kernel_rfl) (fun hb => ?_) (fun hb => ?_)
       ·have h := h.1 hb
        refine srn 2 ⟨93, [sI 8 ((mget c5 [(b.getD ((0 : Int)).toNat (0 : Int)), signs, i]).getD (0 : Int)), e7_7], [e7_0 c0 c1 c2 c3 c4, e7_2 c5]⟩ (by kernel_rfl) rfl ?_
        refine aw_ret ?_
        refine thenQ_r ?_
        exact rest1 (((mget c5 [(b.getD ((0 : Int)).toNat (0 : Int)), signs, i]).getD (0 : Int)), c5) h
       ·have h := h.2 hb
        refine aw_skip ?_
        refine thenQ_n ?_
        refine aw_seq ?_
        refine srn 7 ⟨93, [e7_8, e7_1 b, sI 2 signs, sI 3 i, e7_18 c5 b signs i, e7_3 c3, e7_9 c3, sI 58 (0 : Int), e7_7], [e7_0 c0 c1 c2 c3 c4, e7_2 c5]⟩ (by kernel_rfl) rfl ?_
        refine withJoin (σ := Int × (List (LI × Int))) (fun s => (⟨93, [e7_8, e7_1 b, sI 2 signs, sI 3 i, sI 9 s.1, e7_7], [e7_0 c0 c1 c2 c3 c4, (70101, [], .dict (.ar 2 tI) tI s.2)]⟩ : St)) (fun s => VCc43_k2 b signs i K s.1 s.2) (fun s h => ?_) (fun rest3 => ?_)
        ·obtain ⟨n, l70101⟩ := s
         have h : VCc43_k2 b signs i K n l70101 := h
         unfold VCc43_k2 at h
         refine thenQ_n ?_
         refine aw_seq ?_
         refine srn 2 ⟨93, [e7_8, e7_1 b, sI 2 signs, sI 3 i, sI 9 n, sB 82 (decide ((1099511627776 : Int) < n)), e7_7], [e7_0 c0 c1 c2 c3 c4, e7_6 l70101]⟩ (by kernel_rfl) rfl ?_
         refine withJoin (σ := Int) (fun s => (⟨93, [e7_8, e7_1 b, sI 2 signs, sI 3 i, sI 9 s, e7_7], [e7_0 c0 c1 c2 c3 c4, e7_6 l70101]⟩ : St)) (fun s => VCc43_k3 b signs i K l70101 s) (fun n2 h => ?_) (fun rest2 => ?_)
         ·have h : VCc43_k3 b signs i K l70101 n2 := h
          unfold VCc43_k3 at h
          refine thenQ_n ?_
          refine sr ?_
          refine rqT 10 ⟨93, [sI 9 n2, e7_7], [e7_0 c0 c1 c2 c3 c4, (70101, [], .dict (.ar 2 tI) tI (mset l70101 [(b.getD ((0 : Int)).toNat (0 : Int)), signs, i] n2))]⟩ (by kernel_rfl) ?_
          refine nsr ?_
          refine rqT 2 ⟨93, [sI 8 n2, e7_7], [e7_0 c0 c1 c2 c3 c4, (70101, [], .dict (.ar 2 tI) tI (mset l70101 [(b.getD ((0 : Int)).toNat (0 : Int)), signs, i] n2))]⟩ (by kernel_rfl) ?_
          refine nn ?_
          refine aw_ret ?_
          exact rest1 (n2, (mset l70101 [(b.getD ((0 : Int)).toNat (0 : Int)), signs, i] n2)) h
         ·refine aw_cond (b := (decide ((1099511627776 : Int) < n))) (by kernel_rfl) (fun hb => ?_) (fun hb => ?_)
          ·have h := h.1 hb
           refine aw_region ?_
           refine rqT 1 ⟨93, [e7_8, e7_1 b, sI 2 signs, sI 3 i, e7_21, e7_7], [e7_0 c0 c1 c2 c3 c4, e7_6 l70101]⟩ (by kernel_rfl) ?_
           refine awl_nil ?_
           exact rest2 (1099511627777 : Int) h
          ·have h := h.2 hb
           refine cpr (st' := (⟨93, [e7_8, e7_1 b, sI 2 signs, sI 3 i, sI 9 n, e7_7], [e7_0 c0 c1 c2 c3 c4, e7_6 l70101]⟩ : St)) (by kernel_rfl) ?_
           refine aw_skip ?_
           exact rest2 n h
        ·refine aw_block ?_
         refine aw_loop (σ := Int × Int × (List (LI × Int))) (fun s => (⟨93, [e7_8, e7_1 b, sI 2 signs, sI 3 i, sI 9 s.1, e7_3 c3, e7_9 c3, sI 58 s.2.1, e7_7], [e7_0 c0 c1 c2 c3 c4, (70101, [], .dict (.ar 2 tI) tI s.2.2)]⟩ : St)) (fun s X => VCc43_l1 c0 c3 R b signs i K s.1 s.2.1 s.2.2 X) (s0 := (((mget c5 [(b.getD ((0 : Int)).toNat (0 : Int)), signs, i]).getD (0 : Int)), (0 : Int), c5)) (fun s X1 h => ?_) h
         obtain ⟨n, v58, l70101⟩ := s
         have h : VCc43_l1 c0 c3 R b signs i K n v58 l70101 X1 := h
         unfold VCc43_l1 at h
         refine srn 1 ⟨93, [e7_8, e7_1 b, sI 2 signs, sI 3 i, sI 9 n, e7_3 c3, e7_9 c3, sI 58 v58, sB 59 (decide (v58 < (c3.length : Int))), e7_7], [e7_0 c0 c1 c2 c3 c4, e7_6 l70101]⟩ (by kernel_rfl) rfl ?_
         refine aw_seq ?_
         refine aw_cond (b := (decide (v58 < (c3.length : Int)))) (by kernel_rfl) (fun hb => ?_) (fun hb => ?_)
         ·have h := h.1 hb
          refine aw_skip ?_
          refine thenQ_n ?_
          refine aw_seq ?_
          refine aw_block ?_
          refine sr ?_
          obtain ⟨o1, h⟩ := h
          refine rq 4 (ob := (inIdx v58 c3.length ∧ Ts 3 True)) (st' := (⟨93, [e7_8, e7_1 b, sI 2 signs, sI 3 i, sI 9 n, sp 12 12, e7_3 c3, e7_9 c3, sI 58 v58, e7_7], [e7_12 c3 v58, e7_0 c0 c1 c2 c3 c4, e7_6 l70101]⟩ : St)) (by kernel_rfl) (⟨o1, tsI 3 trivial⟩) ?_
          refine nn ?_
          refine aw_seq ?_
          refine awd_begin [] (by kernel_rfl) ?_
          obtain ⟨o1, h⟩ := h
          refine drq (by kernel_rfl) [0, 1, 2, 3, 4, 5, 6, 7, 8, 9] (ob := (Ts 8 (InR ((b.getD ((0 : Int)).toNat (0 : Int)) - c0) ∧ Ts 1 True))) (done' := [9, 8, 7, 6, 5, 4, 3, 2, 1, 0]) (st' := (⟨93, [e7_8, e7_1 b, sI 2 signs, sI 3 i, sI 9 n, sp 12 12, e7_3 c3, e7_9 c3, sI 58 v58, sB 71 (decide ((c3.getD (v58).toNat ((0 : Int), ([] : LI))).1 = ((b.getD ((0 : Int)).toNat (0 : Int)) - c0))), e7_7], [e7_12 c3 v58, e7_0 c0 c1 c2 c3 c4, e7_6 l70101]⟩ : St)) (by kernel_rfl) (tsI 8 ⟨o1, tsI 1 trivial⟩) ?_
          refine awd_done (by kernel_rfl) ?_
          refine thenQ_n ?_
          refine withJoin (σ := Int × (List (LI × Int))) (fun s => (⟨93, [e7_8, e7_1 b, sI 2 signs, sI 3 i, sI 9 s.1, e7_3 c3, e7_9 c3, sI 58 v58, e7_7], [e7_0 c0 c1 c2 c3 c4, (70101, [], .dict (.ar 2 tI) tI s.2)]⟩ : St)) (fun s => VCc43_k4 v58 X1 s.1 s.2) (fun s h => ?_) (fun rest4 => ?_)
          ·obtain ⟨n2, l701012⟩ := s
           have h : VCc43_k4 v58 X1 n2 l701012 := h
           unfold VCc43_k4 at h
           refine blockQ_n ?_
           refine thenQ_n ?_
           refine aw_region ?_
           obtain ⟨o1, h⟩ := h
           refine rq 2 (ob := (InR (v58 + (1 : Int)) ∧ Ts 1 True)) (st' := (⟨93, [e7_8, e7_1 b, sI 2 signs, sI 3 i, sI 9 n2, e7_3 c3, e7_9 c3, sI 58 (v58 + (1 : Int)), e7_7], [e7_0 c0 c1 c2 c3 c4, e7_4 l701012]⟩ : St)) (by kernel_rfl) (⟨o1, tsI 1 trivial⟩) ?_
           refine awl_nil ?_
           exact thenQ_n ⟨(n2, (v58 + (1 : Int)), l701012), rfl, h⟩
          ·refine aw_cond (b := (decide ((c3.getD (v58).toNat ((0 : Int), ([] : LI))).1 = ((b.getD ((0 : Int)).toNat (0 : Int)) - c0)))) (by kernel_rfl) (fun hb => ?_) (fun hb => ?_)
           ·have h := h.1 hb
            refine aw_region ?_
            refine rqT 6 ⟨93, [e7_8, e7_1 b, sI 2 signs, sI 3 i, e7_3 c3, e7_9 c3, sI 58 v58, sI 72 n, sp 73 70100, e7_19 c3 v58, sI 76 signs, sI 77 i, e7_7], [e7_0 c0 c1 c2 c3 c4, e7_6 l70101]⟩ (by kernel_rfl) ?_
            refine awl_lcall (σ := Int × (List (LI × Int))) [70100, 70101] [70100] [.c (.ptr 70100 0), .c (.pS ((c3.getD (v58).toNat ((0 : Int), ([] : LI))).2)), .c (.pI signs), .c (.pI i)] [] (fun ret78v => .v (.c (.pI ret78v.1))) (fun ret78v => [e7_0 c0 c1 c2 c3 c4, e7_11 ret78v]) (_) [e7_0 c0 c1 c2 c3 c4, e7_6 l70101] (fun ret78v => (⟨93, [sI 78 ret78v.1, e7_8, e7_1 b, sI 2 signs, sI 3 i, e7_3 c3, e7_9 c3, sI 58 v58, sI 72 n, sp 73 70100, e7_19 c3 v58, sI 76 signs, sI 77 i, e7_7], [e7_0 c0 c1 c2 c3 c4, e7_11 ret78v]⟩ : St)) rfl rfl (by kernel_rfl) rfl (by kernel_rfl) Try.call43 (by kernel_rfl) (by kernel_rfl) (by kernel_rfl) (fun _ _ => rfl) (fun _ => by kernel_rfl) (hR ((c3.getD (v58).toNat ((0 : Int), ([] : LI))).2) signs i l70101 _ h) (fun ret78v h => ?_)
            refine lpr (st' := (⟨93, [e7_8, e7_1 b, sI 2 signs, sI 3 i, e7_3 c3, e7_9 c3, sI 58 v58, sI 72 n, sI 78 ret78v.1, e7_7], [e7_0 c0 c1 c2 c3 c4, e7_11 ret78v]⟩ : St)) (by kernel_rfl) ?_
            obtain ⟨o1, h⟩ := h
            refine rq 2 (ob := (InR (n + ret78v.1) ∧ Ts 1 True)) (st' := (⟨93, [e7_8, e7_1 b, sI 2 signs, sI 3 i, sI 9 (n + ret78v.1), e7_3 c3, e7_9 c3, sI 58 v58, e7_7], [e7_0 c0 c1 c2 c3 c4, e7_11 ret78v]⟩ : St)) (by kernel_rfl) (⟨o1, tsI 1 trivial⟩) ?_
            refine awl_nil ?_
            exact rest4 ((n + ret78v.1), ret78v.2) h
           ·have h := h.2 hb
            refine cpr (st' := (⟨93, [e7_8, e7_1 b, sI 2 signs, sI 3 i, sI 9 n, e7_3 c3, e7_9 c3, sI 58 v58, e7_7], [e7_0 c0 c1 c2 c3 c4, e7_6 l70101]⟩ : St)) (by kernel_rfl) ?_
            refine aw_skip ?_
            exact rest4 (n, l70101) h
         ·have h := h.2 hb
          refine cpr (st' := (⟨93, [e7_8, e7_1 b, sI 2 signs, sI 3 i, sI 9 n, e7_7], [e7_0 c0 c1 c2 c3 c4, e7_6 l70101]⟩ : St)) (by kernel_rfl) ?_
          refine aw_exit ?_
          refine thenQ_x ?_
          refine thenQ_x ?_
          refine blockQ_hit ?_
          exact rest3 (n, l70101) h
   ·have h := h.2 hb
    refine aw_skip ?_
    refine thenQ_n ?_
    refine srn 1 ⟨63, [e7_8, e7_16 b, sI 2 signs, sI 3 i, sI 9 (0 : Int), e7_14], [e7_0 c0 c1 c2 c3 c4, e7_2 c5]⟩ (by kernel_rfl) rfl ?_
    refine aw_seq ?_
    refine sr ?_
    obtain ⟨o1, h⟩ := h
    refine rq 3 (ob := (Ts 1 (InR (signs + (1 : Int)) ∧ Ts 1 True))) (st' := (⟨63, [e7_8, e7_16 b, sI 2 signs, sI 3 i, sI 9 (0 : Int), sI 10 (signs + (1 : Int)), e7_14], [e7_0 c0 c1 c2 c3 c4, e7_2 c5]⟩ : St)) (by kernel_rfl) (tsI 1 ⟨o1, tsI 1 trivial⟩) ?_
    refine nn ?_
    refine withJoin (σ := Int × (List (LI × Int))) (fun s => (⟨63, [sI 9 s.1, e7_14], [e7_0 c0 c1 c2 c3 c4, (70101, [], .dict (.ar 2 tI) tI s.2)]⟩ : St)) (fun s => VCc43_k5 K s.1 s.2) (fun s h => ?_) (fun rest5 => ?_)
    ·obtain ⟨sumv, l70101⟩ := s
     have h : VCc43_k5 K sumv l70101 := h
     unfold VCc43_k5 at h
     refine thenQ_n ?_
     refine srn 2 ⟨63, [sI 8 sumv, e7_14], [e7_0 c0 c1 c2 c3 c4, e7_6 l70101]⟩ (by kernel_rfl) rfl ?_
     refine aw_ret ?_
     exact lret_r (σ := Int × (List (LI × Int))) (A := fun y => .v (.c (.pI y.1))) (H := fun y => [e7_0 c0 c1 c2 c3 c4, (70101, [], .dict (.ar 2 tI) tI y.2)]) (ob := True) (sumv, l70101) (by kernel_rfl) trivial rfl (by kernel_rfl) (by kernel_rfl) (by kernel_rfl) h
    ·refine aw_block ?_
     refine aw_loop (σ := Int × Int × (List (LI × Int))) (fun s => (⟨63, [e7_8, e7_16 b, sI 2 signs, sI 3 i, sI 9 s.1, sI 10 s.2.1, e7_14], [e7_0 c0 c1 c2 c3 c4, (70101, [], .dict (.ar 2 tI) tI s.2.2)]⟩ : St)) (fun s X => VCc43_l2 c0 c3 c4 R b signs i K s.1 s.2.1 s.2.2 X) (s0 := ((0 : Int), (signs + (1 : Int)), c5)) (fun s X2 h => ?_) h
     obtain ⟨sumv, m, l70101⟩ := s
     have h : VCc43_l2 c0 c3 c4 R b signs i K sumv m l70101 X2 := h
     unfold VCc43_l2 at h
     refine aw_seq ?_
     refine srn 3 ⟨63, [e7_8, e7_16 b, sI 2 signs, sI 3 i, sI 9 sumv, sI 10 m, sB 38 (decide (m < i)), e7_14], [e7_0 c0 c1 c2 c3 c4, e7_6 l70101]⟩ (by kernel_rfl) rfl ?_
     refine aw_cond (b := (decide (m < i))) (by kernel_rfl) (fun hb => ?_) (fun hb => ?_)
     ·have h := h.1 hb
      refine aw_skip ?_
      refine thenQ_n ?_
      refine aw_seq ?_
      refine aw_block ?_
      refine sr ?_
      obtain ⟨o1, h⟩ := h
      refine rq 5 (ob := (Ts 2 ((0 ≤ (1 : Int) ∧ (1 : Int) ≤ (b.length : Int)) ∧ Ts 2 True))) (st' := (⟨63, [e7_8, e7_16 b, sI 2 signs, sI 3 i, sI 9 sumv, sI 10 m, sp 41 70100, s1 43 (.pS (b.drop ((1 : Int)).toNat)), sI 44 m, sI 45 i, e7_14], [e7_0 c0 c1 c2 c3 c4, e7_6 l70101]⟩ : St)) (by kernel_rfl) (tsI 2 ⟨o1, tsI 2 trivial⟩) ?_
      refine awl_lcall (σ := Int × (List (LI × Int))) [70100, 70101] [70100] [.c (.ptr 70100 0), .c (.pS (b.drop ((1 : Int)).toNat)), .c (.pI m), .c (.pI i)] [] (fun ret46v => .v (.c (.pI ret46v.1))) (fun ret46v => [e7_0 c0 c1 c2 c3 c4, e7_5 ret46v]) (_) [e7_0 c0 c1 c2 c3 c4, e7_6 l70101] (fun ret46v => (⟨63, [sI 46 ret46v.1, e7_8, e7_16 b, sI 2 signs, sI 3 i, sI 9 sumv, sI 10 m, sp 41 70100, s1 43 (.pS (b.drop ((1 : Int)).toNat)), sI 44 m, sI 45 i, e7_14], [e7_0 c0 c1 c2 c3 c4, e7_5 ret46v]⟩ : St)) rfl rfl (by kernel_rfl) rfl (by kernel_rfl) Try.call43 (by kernel_rfl) (by kernel_rfl) (by kernel_rfl) (fun _ _ => rfl) (fun _ => by kernel_rfl) (hR (b.drop ((1 : Int)).toNat) m i l70101 _ h) (fun ret46v h => ?_)
      refine lpr (st' := (⟨63, [e7_8, e7_16 b, sI 2 signs, sI 3 i, sI 9 sumv, sI 10 m, sI 46 ret46v.1, e7_14], [e7_0 c0 c1 c2 c3 c4, e7_5 ret46v]⟩ : St)) (by kernel_rfl) ?_
      refine rqT 1 ⟨63, [e7_8, e7_16 b, sI 2 signs, sI 3 i, sI 9 sumv, sI 10 m, sI 11 ret46v.1, e7_14], [e7_0 c0 c1 c2 c3 c4, e7_5 ret46v]⟩ (by kernel_rfl) ?_
      refine nn ?_
      refine aw_seq ?_
      refine srn 2 ⟨63, [e7_8, e7_16 b, sI 2 signs, sI 3 i, sI 9 sumv, sI 10 m, sI 11 ret46v.1, sB 48 (decide ((0 : Int) < ret46v.1)), e7_14], [e7_0 c0 c1 c2 c3 c4, e7_5 ret46v]⟩ (by kernel_rfl) rfl ?_
      refine withJoin (σ := Int × (List (LI × Int))) (fun s => (⟨63, [e7_8, e7_16 b, sI 2 signs, sI 3 i, sI 9 s.1, sI 10 m, e7_14], [e7_0 c0 c1 c2 c3 c4, (70101, [], .dict (.ar 2 tI) tI s.2)]⟩ : St)) (fun s => VCc43_k6 m X2 s.1 s.2) (fun s h => ?_) (fun rest7 => ?_)
      ·obtain ⟨sumv2, l701012⟩ := s
       have h : VCc43_k6 m X2 sumv2 l701012 := h
       unfold VCc43_k6 at h
       refine thenQ_n ?_
       refine srn 2 ⟨63, [e7_8, e7_16 b, sI 2 signs, sI 3 i, sI 9 sumv2, sI 10 m, sB 61 (decide ((1099511627776 : Int) < sumv2)), e7_14], [e7_0 c0 c1 c2 c3 c4, e7_4 l701012]⟩ (by kernel_rfl) rfl ?_
       refine withJoin (σ := Int) (fun s => (⟨63, [e7_8, e7_16 b, sI 2 signs, sI 3 i, sI 9 s, sI 10 m, e7_14], [e7_0 c0 c1 c2 c3 c4, e7_4 l701012]⟩ : St)) (fun s => VCc43_k7 m X2 l701012 s) (fun sumv3 h => ?_) (fun rest6 => ?_)
       ·have h : VCc43_k7 m X2 l701012 sumv3 := h
        unfold VCc43_k7 at h
        refine blockQ_n ?_
        refine thenQ_n ?_
        refine aw_region ?_
        obtain ⟨o1, h⟩ := h
        refine rq 3 (ob := (Ts 1 (InR (m + (1 : Int)) ∧ Ts 1 True))) (st' := (⟨63, [e7_8, e7_16 b, sI 2 signs, sI 3 i, sI 9 sumv3, sI 10 (m + (1 : Int)), e7_14], [e7_0 c0 c1 c2 c3 c4, e7_4 l701012]⟩ : St)) (by kernel_rfl) (tsI 1 ⟨o1, tsI 1 trivial⟩) ?_
        refine awl_nil ?_
        exact thenQ_n ⟨(sumv3, (m + (1 : Int)), l701012), rfl, h⟩
       ·refine aw_cond (b := (decide ((1099511627776 : Int) < sumv2))) (by kernel_rfl) (fun hb => ?_) (fun hb => ?_)
        ·have h := h.1 hb
         refine aw_region ?_
         refine rqT 1 ⟨63, [e7_8, e7_16 b, sI 2 signs, sI 3 i, e7_21, sI 10 m, e7_14], [e7_0 c0 c1 c2 c3 c4, e7_4 l701012]⟩ (by kernel_rfl) ?_
         refine awl_nil ?_
         exact rest6 (1099511627777 : Int) h
        ·have h := h.2 hb
         refine cpr (st' := (⟨63, [e7_8, e7_16 b, sI 2 signs, sI 3 i, sI 9 sumv2, sI 10 m, e7_14], [e7_0 c0 c1 c2 c3 c4, e7_4 l701012]⟩ : St)) (by kernel_rfl) ?_
         refine aw_skip ?_
         exact rest6 sumv2 h
      ·refine aw_cond (b := (decide ((0 : Int) < ret46v.1))) (by kernel_rfl) (fun hb => ?_) (fun hb => ?_)
       ·have h := h.1 hb
        refine aw_region ?_
        obtain ⟨o1, h⟩ := h
        refine rq 7 (ob := (Ts 3 (inIdx (0 : Int) b.length ∧ Ts 3 True))) (st' := (⟨63, [e7_8, e7_16 b, sI 2 signs, sI 3 i, sI 10 m, sI 11 ret46v.1, sI 49 sumv, sp 50 70100, sI 53 (b.getD ((0 : Int)).toNat (0 : Int)), sI 54 signs, sI 55 m, e7_14], [e7_0 c0 c1 c2 c3 c4, e7_5 ret46v]⟩ : St)) (by kernel_rfl) (tsI 3 ⟨o1, tsI 3 trivial⟩) ?_
        refine awl_inlr [.t 8] [70100, 70101] [.c (.ptr 70100 0), .c (.pI (b.getD ((0 : Int)).toNat (0 : Int))), .c (.pI signs), .c (.pI m)] [] rfl rfl (by kernel_rfl) rfl (by kernel_rfl) Try.call21 (by kernel_rfl) (by kernel_rfl) Try.func21 rfl rfl (by kernel_rfl) ?_
        refine aw_conv [] (st' := (⟨93, [e7_8, e7_1 b, sI 2 signs, sI 3 m, e7_15, e7_13 b, sI 95 signs, sI 96 i, sI 103 m, e7_10 ret46v, sI 142 sumv, sp 143 70100, sI 146 (b.getD ((0 : Int)).toNat (0 : Int)), sI 147 signs, sI 148 m, e7_7], [e7_0 c0 c1 c2 c3 c4, e7_5 ret46v]⟩ : St)) (by kernel_rfl) ?_
        refine withJoinR (σ := Int × (List (LI × Int))) (fun s => (⟨93, [sI 8 s.1, e7_15, e7_13 b, sI 95 signs, sI 96 i, sI 103 m, e7_10 ret46v, sI 142 sumv, e7_7], [e7_0 c0 c1 c2 c3 c4, (70101, [], .dict (.ar 2 tI) tI s.2)]⟩ : St)) (fun s => VCc43_k8 sumv m X2 ret46v s.1 s.2) (fun s h => ?_) (fun rest8 => ?_)
        ·obtain ⟨v8, l701012⟩ := s
         have h : VCc43_k8 sumv m X2 ret46v v8 l701012 := h
         unfold VCc43_k8 at h
         refine inlR_n (ob := True) (.v (.c (.pI v8))) (by kernel_rfl) trivial rfl ?_
         refine lpr (st' := (⟨63, [e7_8, e7_16 b, sI 2 signs, sI 3 i, sI 10 m, sI 11 ret46v.1, sI 49 sumv, sI 56 v8, e7_14], [e7_0 c0 c1 c2 c3 c4, e7_4 l701012]⟩ : St)) (by kernel_rfl) ?_
         refine rqT 1 ⟨63, [e7_8, e7_16 b, sI 2 signs, sI 3 i, sI 10 m, sI 49 sumv, sI 56 v8, sI 57 ret46v.1, e7_14], [e7_0 c0 c1 c2 c3 c4, e7_4 l701012]⟩ (by kernel_rfl) ?_
         refine lcq (d := 58) [.d tI, .d tI] (fun ret58v => (⟨63, [e7_8, e7_16 b, sI 2 signs, sI 3 i, sI 10 m, sI 49 sumv, sI 58 ret58v, e7_14], [e7_0 c0 c1 c2 c3 c4, e7_4 l701012]⟩ : St)) (by kernel_rfl) Try.call65 (fun _ => by kernel_rfl) (link65 v8 ret46v.1 _ h) (fun ret58v h => ?_)
         obtain ⟨o1, h⟩ := h
         refine rq 2 (ob := (InR (sumv + ret58v) ∧ Ts 1 True)) (st' := (⟨63, [e7_8, e7_16 b, sI 2 signs, sI 3 i, sI 9 (sumv + ret58v), sI 10 m, e7_14], [e7_0 c0 c1 c2 c3 c4, e7_4 l701012]⟩ : St)) (by kernel_rfl) (⟨o1, tsI 1 trivial⟩) ?_
         refine awl_nil ?_
         exact rest7 ((sumv + ret58v), l701012) h
        ·refine srn 1 ⟨93, [e7_8, e7_1 b, sI 2 signs, sI 3 m, e7_15, e7_13 b, sI 95 signs, sI 96 i, sI 103 m, e7_10 ret46v, sI 142 sumv, e7_7], [e7_0 c0 c1 c2 c3 c4, e7_5 ret46v]⟩ (by kernel_rfl) rfl ?_
         refine aw_seq ?_
         refine srn 7 ⟨93, [e7_8, e7_1 b, sI 2 signs, sI 3 m, sB 19 (decide ((b.getD ((0 : Int)).toNat (0 : Int)) < c0)), e7_15, e7_13 b, sI 95 signs, sI 96 i, sI 103 m, e7_10 ret46v, sI 142 sumv, e7_7], [e7_0 c0 c1 c2 c3 c4, e7_5 ret46v]⟩ (by kernel_rfl) rfl ?_
         refine aw_cond (b := (decide ((b.getD ((0 : Int)).toNat (0 : Int)) < c0))) (by kernel_rfl) (fun hb => ?_) (fun hb => ?_)
         ·have h := h.1 hb
          refine aw_seq ?_
          refine sr ?_
          obtain ⟨o1, o2, h⟩ := h
          refine rq 15 (ob := (Ts 2 (InR (signs + (1 : Int)) ∧ Ts 2 (Ti 5 ((decide (m = (signs + (1 : Int)))) = true → True) (((decide (m = (signs + (1 : Int)))) = true → inIdx signs c4.length) ∧ Ti 3 ((decide (m = (signs + (1 : Int)))) = true → True) (Ts 1 True)))))) (st' := (⟨93, [sB 34 ((decide (m = (signs + (1 : Int)))) && (decide ((c4.getD (signs).toNat (0 : Int)) = (b.getD ((0 : Int)).toNat (0 : Int))))), e7_15, e7_13 b, sI 95 signs, sI 96 i, sI 103 m, e7_10 ret46v, sI 142 sumv, e7_7], [e7_0 c0 c1 c2 c3 c4, e7_5 ret46v]⟩ : St)) (by kernel_rfl) (tsI 2 (⟨o1, tsI 2 (tiI 5 (fun _ => trivial) ⟨o2, tiI 3 (fun _ => trivial) (tsI 1 trivial)⟩)⟩)) ?_
          refine nn ?_
          refine aw_cond (b := ((decide (m = (signs + (1 : Int)))) && (decide ((c4.getD (signs).toNat (0 : Int)) = (b.getD ((0 : Int)).toNat (0 : Int)))))) (by kernel_rfl) (fun hb => ?_) (fun hb => ?_)
          ·have h := h.1 hb
           refine srn 1 ⟨93, [sI 8 (1 : Int), e7_15, e7_13 b, sI 95 signs, sI 96 i, sI 103 m, e7_10 ret46v, sI 142 sumv, e7_7], [e7_0 c0 c1 c2 c3 c4, e7_5 ret46v]⟩ (by kernel_rfl) rfl ?_
           refine aw_ret ?_
           refine thenQ_r ?_
           refine thenQ_r ?_
           exact rest8 ((1 : Int), ret46v.2) h
          ·have h := h.2 hb
           refine aw_skip ?_
           refine thenQ_n ?_
           refine srn 1 ⟨93, [e7_20, e7_15, e7_13 b, sI 95 signs, sI 96 i, sI 103 m, e7_10 ret46v, sI 142 sumv, e7_7], [e7_0 c0 c1 c2 c3 c4, e7_5 ret46v]⟩ (by kernel_rfl) rfl ?_
           refine aw_ret ?_
           refine thenQ_r ?_
           exact rest8 ((0 : Int), ret46v.2) h
         ·have h := h.2 hb
          refine aw_skip ?_
          refine thenQ_n ?_
          refine aw_seq ?_
          refine srn 3 ⟨93, [e7_8, e7_1 b, sI 2 signs, sI 3 m, sB 37 (decide (signs = m)), e7_15, e7_13 b, sI 95 signs, sI 96 i, sI 103 m, e7_10 ret46v, sI 142 sumv, e7_7], [e7_0 c0 c1 c2 c3 c4, e7_5 ret46v]⟩ (by kernel_rfl) rfl ?_
          refine aw_cond (b := (decide (signs = m))) (by kernel_rfl) (fun hb => ?_) (fun hb => ?_)
          ·have h := h.1 hb
           refine srn 1 ⟨93, [e7_20, e7_15, e7_13 b, sI 95 signs, sI 96 i, sI 103 m, e7_10 ret46v, sI 142 sumv, e7_7], [e7_0 c0 c1 c2 c3 c4, e7_5 ret46v]⟩ (by kernel_rfl) rfl ?_
           refine aw_ret ?_
           refine thenQ_r ?_
           exact rest8 ((0 : Int), ret46v.2) h
          ·have h := h.2 hb
           refine aw_skip ?_
           refine thenQ_n ?_
           refine srn 14 ⟨93, [e7_8, e7_1 b, sI 2 signs, sI 3 m, e7_17 ret46v b signs m, sB 10 ((mget ret46v.2 [(b.getD ((0 : Int)).toNat (0 : Int)), signs, m]).isSome), e7_15, e7_13 b, sI 95 signs, sI 96 i, sI 103 m, e7_10 ret46v, sI 142 sumv, e7_7], [e7_0 c0 c1 c2 c3 c4, e7_5 ret46v]⟩ (by kernel_rfl) rfl ?_
           refine aw_seq ?_
           refine srn 1 ⟨93, [e7_8, e7_1 b, sI 2 signs, sI 3 m, e7_17 ret46v b signs m, sB 50 ((mget ret46v.2 [(b.getD ((0 : Int)).toNat (0 : Int)), signs, m]).isSome), e7_15, e7_13 b, sI 95 signs, sI 96 i, sI 103 m, e7_10 ret46v, sI 142 sumv, e7_7], [e7_0 c0 c1 c2 c3 c4, e7_5 ret46v]⟩ (by kernel_rfl) rfl ?_
           refine aw_cond (b := (mget ret46v.2 [(b.getD ((0 : Int)).toNat (0 : Int)), signs, m]).isSome) (by kernel_rfl) (fun hb => ?_) (fun hb => ?_)
           ·have h := h.1 hb
            refine srn 2 ⟨93, [sI 8 ((mget ret46v.2 [(b.getD ((0 : Int)).toNat (0 : Int)), signs, m]).getD (0 : Int)), e7_15, e7_13 b, sI 95 signs, sI 96 i, sI 103 m, e7_10 ret46v, sI 142 sumv, e7_7], [e7_0 c0 c1 c2 c3 c4, e7_5 ret46v]⟩ (by kernel_rfl) rfl ?_
            refine aw_ret ?_
            refine thenQ_r ?_
            exact rest8 (((mget ret46v.2 [(b.getD ((0 : Int)).toNat (0 : Int)), signs, m]).getD (0 : Int)), ret46v.2) h
           ·have h := h.2 hb
            refine aw_skip ?_
            refine thenQ_n ?_
            refine aw_seq ?_
            refine srn 7 ⟨93, [e7_8, e7_1 b, sI 2 signs, sI 3 m, e7_17 ret46v b signs m, e7_3 c3, e7_9 c3, sI 58 (0 : Int), e7_15, e7_13 b, sI 95 signs, sI 96 i, sI 103 m, e7_10 ret46v, sI 142 sumv, e7_7], [e7_0 c0 c1 c2 c3 c4, e7_5 ret46v]⟩ (by kernel_rfl) rfl ?_
            refine withJoin (σ := Int × (List (LI × Int))) (fun s => (⟨93, [e7_8, e7_1 b, sI 2 signs, sI 3 m, sI 9 s.1, e7_15, e7_13 b, sI 95 signs, sI 96 i, sI 103 m, e7_10 ret46v, sI 142 sumv, e7_7], [e7_0 c0 c1 c2 c3 c4, (70101, [], .dict (.ar 2 tI) tI s.2)]⟩ : St)) (fun s => VCc43_k9 b signs sumv m X2 ret46v s.1 s.2) (fun s h => ?_) (fun rest10 => ?_)
            ·obtain ⟨n, l701012⟩ := s
             have h : VCc43_k9 b signs sumv m X2 ret46v n l701012 := h
             unfold VCc43_k9 at h
             refine thenQ_n ?_
             refine aw_seq ?_
             refine srn 2 ⟨93, [e7_8, e7_1 b, sI 2 signs, sI 3 m, sI 9 n, sB 82 (decide ((1099511627776 : Int) < n)), e7_15, e7_13 b, sI 95 signs, sI 96 i, sI 103 m, e7_10 ret46v, sI 142 sumv, e7_7], [e7_0 c0 c1 c2 c3 c4, e7_4 l701012]⟩ (by kernel_rfl) rfl ?_
             refine withJoin (σ := Int) (fun s => (⟨93, [e7_8, e7_1 b, sI 2 signs, sI 3 m, sI 9 s, e7_15, e7_13 b, sI 95 signs, sI 96 i, sI 103 m, e7_10 ret46v, sI 142 sumv, e7_7], [e7_0 c0 c1 c2 c3 c4, e7_4 l701012]⟩ : St)) (fun s => VCc43_k10 b signs sumv m X2 ret46v l701012 s) (fun n2 h => ?_) (fun rest9 => ?_)
             ·have h : VCc43_k10 b signs sumv m X2 ret46v l701012 n2 := h
              unfold VCc43_k10 at h
              refine thenQ_n ?_
              refine sr ?_
              refine rqT 10 ⟨93, [sI 9 n2, e7_15, e7_13 b, sI 95 signs, sI 96 i, sI 103 m, e7_10 ret46v, sI 142 sumv, e7_7], [e7_0 c0 c1 c2 c3 c4, (70101, [], .dict (.ar 2 tI) tI (mset l701012 [(b.getD ((0 : Int)).toNat (0 : Int)), signs, m] n2))]⟩ (by kernel_rfl) ?_
              refine nsr ?_
              refine rqT 2 ⟨93, [sI 8 n2, e7_15, e7_13 b, sI 95 signs, sI 96 i, sI 103 m, e7_10 ret46v, sI 142 sumv, e7_7], [e7_0 c0 c1 c2 c3 c4, (70101, [], .dict (.ar 2 tI) tI (mset l701012 [(b.getD ((0 : Int)).toNat (0 : Int)), signs, m] n2))]⟩ (by kernel_rfl) ?_
              refine nn ?_
              refine aw_ret ?_
              exact rest8 (n2, (mset l701012 [(b.getD ((0 : Int)).toNat (0 : Int)), signs, m] n2)) h
             ·refine aw_cond (b := (decide ((1099511627776 : Int) < n))) (by kernel_rfl) (fun hb => ?_) (fun hb => ?_)
              ·have h := h.1 hb
               refine aw_region ?_
               refine rqT 1 ⟨93, [e7_8, e7_1 b, sI 2 signs, sI 3 m, e7_21, e7_15, e7_13 b, sI 95 signs, sI 96 i, sI 103 m, e7_10 ret46v, sI 142 sumv, e7_7], [e7_0 c0 c1 c2 c3 c4, e7_4 l701012]⟩ (by kernel_rfl) ?_
               refine awl_nil ?_
               exact rest9 (1099511627777 : Int) h
              ·have h := h.2 hb
               refine cpr (st' := (⟨93, [e7_8, e7_1 b, sI 2 signs, sI 3 m, sI 9 n, e7_15, e7_13 b, sI 95 signs, sI 96 i, sI 103 m, e7_10 ret46v, sI 142 sumv, e7_7], [e7_0 c0 c1 c2 c3 c4, e7_4 l701012]⟩ : St)) (by kernel_rfl) ?_
               refine aw_skip ?_
               exact rest9 n h
            ·refine aw_block ?_
             refine aw_loop (σ := Int × Int × (List (LI × Int))) (fun s => (⟨93, [e7_8, e7_1 b, sI 2 signs, sI 3 m, sI 9 s.1, e7_3 c3, e7_9 c3, sI 58 s.2.1, e7_15, e7_13 b, sI 95 signs, sI 96 i, sI 103 m, e7_10 ret46v, sI 142 sumv, e7_7], [e7_0 c0 c1 c2 c3 c4, (70101, [], .dict (.ar 2 tI) tI s.2.2)]⟩ : St)) (fun s X => VCc43_l3 c0 c3 R b signs sumv m X2 ret46v s.1 s.2.1 s.2.2 X) (s0 := (((mget ret46v.2 [(b.getD ((0 : Int)).toNat (0 : Int)), signs, m]).getD (0 : Int)), (0 : Int), ret46v.2)) (fun s X3 h => ?_) h
             obtain ⟨n, v58, l701012⟩ := s
             have h : VCc43_l3 c0 c3 R b signs sumv m X2 ret46v n v58 l701012 X3 := h
             unfold VCc43_l3 at h
             refine srn 1 ⟨93, [e7_8, e7_1 b, sI 2 signs, sI 3 m, sI 9 n, e7_3 c3, e7_9 c3, sI 58 v58, sB 59 (decide (v58 < (c3.length : Int))), e7_15, e7_13 b, sI 95 signs, sI 96 i, sI 103 m, e7_10 ret46v, sI 142 sumv, e7_7], [e7_0 c0 c1 c2 c3 c4, e7_4 l701012]⟩ (by kernel_rfl) rfl ?_
             refine aw_seq ?_
             refine aw_cond (b := (decide (v58 < (c3.length : Int)))) (by kernel_rfl) (fun hb => ?_) (fun hb => ?_)
             ·have h := h.1 hb
              refine aw_skip ?_
              refine thenQ_n ?_
              refine aw_seq ?_
              refine aw_block ?_
              refine sr ?_
              obtain ⟨o1, h⟩ := h
              refine rq 4 (ob := (inIdx v58 c3.length ∧ Ts 3 True)) (st' := (⟨93, [e7_8, e7_1 b, sI 2 signs, sI 3 m, sI 9 n, sp 12 12, e7_3 c3, e7_9 c3, sI 58 v58, e7_15, e7_13 b, sI 95 signs, sI 96 i, sI 103 m, e7_10 ret46v, sI 142 sumv, e7_7], [e7_12 c3 v58, e7_0 c0 c1 c2 c3 c4, e7_4 l701012]⟩ : St)) (by kernel_rfl) (⟨o1, tsI 3 trivial⟩) ?_
              refine nn ?_
              refine aw_seq ?_
              refine awd_begin [] (by kernel_rfl) ?_
              obtain ⟨o1, h⟩ := h
              refine drq (by kernel_rfl) [0, 1, 2, 3, 4, 5, 6, 7, 8, 9] (ob := (Ts 8 (InR ((b.getD ((0 : Int)).toNat (0 : Int)) - c0) ∧ Ts 1 True))) (done' := [9, 8, 7, 6, 5, 4, 3, 2, 1, 0]) (st' := (⟨93, [e7_8, e7_1 b, sI 2 signs, sI 3 m, sI 9 n, sp 12 12, e7_3 c3, e7_9 c3, sI 58 v58, sB 71 (decide ((c3.getD (v58).toNat ((0 : Int), ([] : LI))).1 = ((b.getD ((0 : Int)).toNat (0 : Int)) - c0))), e7_15, e7_13 b, sI 95 signs, sI 96 i, sI 103 m, e7_10 ret46v, sI 142 sumv, e7_7], [e7_12 c3 v58, e7_0 c0 c1 c2 c3 c4, e7_4 l701012]⟩ : St)) (by kernel_rfl) (tsI 8 ⟨o1, tsI 1 trivial⟩) ?_
              refine awd_done (by kernel_rfl) ?_
              refine thenQ_n ?_
              refine withJoin (σ := Int × (List (LI × Int))) (fun s => (⟨93, [e7_8, e7_1 b, sI 2 signs, sI 3 m, sI 9 s.1, e7_3 c3, e7_9 c3, sI 58 v58, e7_15, e7_13 b, sI 95 signs, sI 96 i, sI 103 m, e7_10 ret46v, sI 142 sumv, e7_7], [e7_0 c0 c1 c2 c3 c4, (70101, [], .dict (.ar 2 tI) tI s.2)]⟩ : St)) (fun s => VCc43_k11 v58 X3 s.1 s.2) (fun s h => ?_) (fun rest11 => ?_)
              ·obtain ⟨n2, l701013⟩ := s
               have h : VCc43_k11 v58 X3 n2 l701013 := h
               unfold VCc43_k11 at h
               refine blockQ_n ?_
               refine thenQ_n ?_
               refine aw_region ?_
               obtain ⟨o1, h⟩ := h
               refine rq 2 (ob := (InR (v58 + (1 : Int)) ∧ Ts 1 True)) (st' := (⟨93, [e7_8, e7_1 b, sI 2 signs, sI 3 m, sI 9 n2, e7_3 c3, e7_9 c3, sI 58 (v58 + (1 : Int)), e7_15, e7_13 b, sI 95 signs, sI 96 i, sI 103 m, e7_10 ret46v, sI 142 sumv, e7_7], [e7_0 c0 c1 c2 c3 c4, (70101, [], .dict (.ar 2 tI) tI l701013)]⟩ : St)) (by kernel_rfl) (⟨o1, tsI 1 trivial⟩) ?_
               refine awl_nil ?_
               exact thenQ_n ⟨(n2, (v58 + (1 : Int)), l701013), rfl, h⟩
              ·refine aw_cond (b := (decide ((c3.getD (v58).toNat ((0 : Int), ([] : LI))).1 = ((b.getD ((0 : Int)).toNat (0 : Int)) - c0)))) (by kernel_rfl) (fun hb => ?_) (fun hb => ?_)
               ·have h := h.1 hb
                refine aw_region ?_
                refine rqT 6 ⟨93, [e7_8, e7_1 b, sI 2 signs, sI 3 m, e7_3 c3, e7_9 c3, sI 58 v58, sI 72 n, sp 73 70100, e7_19 c3 v58, sI 76 signs, sI 77 m, e7_15, e7_13 b, sI 95 signs, sI 96 i, sI 103 m, e7_10 ret46v, sI 142 sumv, e7_7], [e7_0 c0 c1 c2 c3 c4, e7_4 l701012]⟩ (by kernel_rfl) ?_
                refine awl_lcall (σ := Int × (List (LI × Int))) [70100, 70101] [70100] [.c (.ptr 70100 0), .c (.pS ((c3.getD (v58).toNat ((0 : Int), ([] : LI))).2)), .c (.pI signs), .c (.pI m)] [] (fun ret78v => .v (.c (.pI ret78v.1))) (fun ret78v => [e7_0 c0 c1 c2 c3 c4, e7_11 ret78v]) (_) [e7_0 c0 c1 c2 c3 c4, e7_4 l701012] (fun ret78v => (⟨93, [sI 78 ret78v.1, e7_8, e7_1 b, sI 2 signs, sI 3 m, e7_3 c3, e7_9 c3, sI 58 v58, sI 72 n, sp 73 70100, e7_19 c3 v58, sI 76 signs, sI 77 m, e7_15, e7_13 b, sI 95 signs, sI 96 i, sI 103 m, e7_10 ret46v, sI 142 sumv, e7_7], [e7_0 c0 c1 c2 c3 c4, e7_11 ret78v]⟩ : St)) rfl rfl (by kernel_rfl) rfl (by kernel_rfl) Try.call43 (by kernel_rfl) (by kernel_rfl) (by kernel_rfl) (fun _ _ => rfl) (fun _ => by kernel_rfl) (hR ((c3.getD (v58).toNat ((0 : Int), ([] : LI))).2) signs m l701012 _ h) (fun ret78v h => ?_)
                refine lpr (st' := (⟨93, [e7_8, e7_1 b, sI 2 signs, sI 3 m, e7_3 c3, e7_9 c3, sI 58 v58, sI 72 n, sI 78 ret78v.1, e7_15, e7_13 b, sI 95 signs, sI 96 i, sI 103 m, e7_10 ret46v, sI 142 sumv, e7_7], [e7_0 c0 c1 c2 c3 c4, e7_11 ret78v]⟩ : St)) (by kernel_rfl) ?_
                obtain ⟨o1, h⟩ := h
                refine rq 2 (ob := (InR (n + ret78v.1) ∧ Ts 1 True)) (st' := (⟨93, [e7_8, e7_1 b, sI 2 signs, sI 3 m, sI 9 (n + ret78v.1), e7_3 c3, e7_9 c3, sI 58 v58, e7_15, e7_13 b, sI 95 signs, sI 96 i, sI 103 m, e7_10 ret46v, sI 142 sumv, e7_7], [e7_0 c0 c1 c2 c3 c4, e7_11 ret78v]⟩ : St)) (by kernel_rfl) (⟨o1, tsI 1 trivial⟩) ?_
                refine awl_nil ?_
                exact rest11 ((n + ret78v.1), ret78v.2) h
               ·have h := h.2 hb
                refine cpr (st' := (⟨93, [e7_8, e7_1 b, sI 2 signs, sI 3 m, sI 9 n, e7_3 c3, e7_9 c3, sI 58 v58, e7_15, e7_13 b, sI 95 signs, sI 96 i, sI 103 m, e7_10 ret46v, sI 142 sumv, e7_7], [e7_0 c0 c1 c2 c3 c4, e7_4 l701012]⟩ : St)) (by kernel_rfl) ?_
                refine aw_skip ?_
                exact rest11 (n, l701012) h
             ·have h := h.2 hb
              refine cpr (st' := (⟨93, [e7_8, e7_1 b, sI 2 signs, sI 3 m, sI 9 n, e7_15, e7_13 b, sI 95 signs, sI 96 i, sI 103 m, e7_10 ret46v, sI 142 sumv, e7_7], [e7_0 c0 c1 c2 c3 c4, e7_4 l701012]⟩ : St)) (by kernel_rfl) ?_
              refine aw_exit ?_
              refine thenQ_x ?_
              refine thenQ_x ?_
              refine blockQ_hit ?_
              exact rest10 (n, l701012) h
       ·have h := h.2 hb
        refine cpr (st' := (⟨63, [e7_8, e7_16 b, sI 2 signs, sI 3 i, sI 9 sumv, sI 10 m, e7_14], [e7_0 c0 c1 c2 c3 c4, e7_5 ret46v]⟩ : St)) (by kernel_rfl) ?_
        refine aw_skip ?_
        exact rest7 (sumv, ret46v.2) h
     ·have h := h.2 hb
      refine cpr (st' := (⟨63, [sI 9 sumv, e7_14], [e7_0 c0 c1 c2 c3 c4, e7_6 l70101]⟩ : St)) (by kernel_rfl) ?_
      refine aw_exit ?_
      refine thenQ_x ?_
      refine thenQ_x ?_
      refine blockQ_hit ?_
      exact rest5 (sumv, l70101) h
def VCc43_it (c0 : Int) (c1 : Int) (c2 : Int) (c3 : LR) (c4 : LI) : Nat → LI → Int → Int → (List (LI × Int)) → (Int × (List (LI × Int)) → Prop) → Prop
  | 0 => fun _ _ _ _ _ => False
  | n + 1 => fun b signs i c5 K => VCc43 c0 c1 c2 c3 c4 (VCc43_it c0 c1 c2 c3 c4 n) b signs i c5 K
def VCcr43 (c0 : Int) (c1 : Int) (c2 : Int) (c3 : LR) (c4 : LI) (b : LI) (signs : Int) (i : Int) (c5 : (List (LI × Int))) (K : Int × (List (LI × Int)) → Prop) : Prop := ∃ n, VCc43_it c0 c1 c2 c3 c4 n b signs i c5 K
theorem linkci43 (c0 : Int) (c1 : Int) (c2 : Int) (c3 : LR) (c4 : LI) : ∀ (n : Nat) (b : LI) (signs : Int) (i : Int) (c5 : (List (LI × Int))) (K : Int × (List (LI × Int)) → Prop), VCc43_it c0 c1 c2 c3 c4 n b signs i c5 K → LCalls Try.prog 43 [70100, 70101] [70100] [e7_0 c0 c1 c2 c3 c4, e7_2 c5] [.c (.ptr 70100 0), .c (.pS b), .c (.pI signs), .c (.pI i)] (fun av hp' => ∃ y : Int × (List (LI × Int)), av = .v (.c (.pI y.1)) ∧ hp' = [e7_0 c0 c1 c2 c3 c4, (70101, [], .dict (.ar 2 tI) tI y.2)] ∧ K y)
  | 0, _, _, _, _, _, h => False.elim h
  | n + 1, b, signs, i, c5, K, h => linkc43 c0 c1 c2 c3 c4 (VCc43_it c0 c1 c2 c3 c4 n) (linkci43 c0 c1 c2 c3 c4 n) b signs i c5 K h
theorem linkcr43 (c0 : Int) (c1 : Int) (c2 : Int) (c3 : LR) (c4 : LI) (b : LI) (signs : Int) (i : Int) (c5 : (List (LI × Int))) (K : Int × (List (LI × Int)) → Prop) (h : VCcr43 c0 c1 c2 c3 c4 b signs i c5 K) : LCalls Try.prog 43 [70100, 70101] [70100] [e7_0 c0 c1 c2 c3 c4, e7_2 c5] [.c (.ptr 70100 0), .c (.pS b), .c (.pI signs), .c (.pI i)] (fun av hp' => ∃ y : Int × (List (LI × Int)), av = .v (.c (.pI y.1)) ∧ hp' = [e7_0 c0 c1 c2 c3 c4, (70101, [], .dict (.ar 2 tI) tI y.2)] ∧ K y) := by
  obtain ⟨n, h⟩ := h
  exact linkci43 c0 c1 c2 c3 c4 n b signs i c5 K h
abbrev e7a0 (g : TG) (w : LI) : Nat × Path × Con := hB 9 [.pI g.1, .pI g.2.1, .pI g.2.2.1, .p (.sl tR) g.2.2.2, .pS w, .own 7]
abbrev e7a1 (g : TG) (w : LI) : Nat × Path × Con := hB 70100 [.pI g.1, .pI g.2.1, .pI g.2.2.1, .p (.sl tR) g.2.2.2, .pS w, .own 70101]
abbrev e7a2 (g : TG) : Nat × Path × AV := s1 56 (.p (.sl tR) g.2.2.2)
abbrev e7a3 (g : TG) : Nat × Path × Con := hB 2 [.pI g.1, .pI g.2.1, .pI g.2.2.1, .p (.sl tR) g.2.2.2]
abbrev e7a4 : Nat × Path × Con := (7, [], .dict (.ar 2 tI) tI ([] : List (LI × Int)))
abbrev e7a5 (w : LI) : Nat × Path × AV := sI 3 (w.length : Int)
abbrev e7a6 (g : TG) : Nat × Path × AV := sI 1 (g.1 + g.2.2.1)
abbrev e7a7 (l7 : (List (LI × Int))) : Nat × Path × Con := (7, [], .dict (.ar 2 tI) tI l7)
abbrev e7a8 (g : TG) : Nat × Path × AV := sI 57 (g.2.2.2.length : Int)
abbrev e7a9 : Nat × Path × AV := sI 2 (0 : Int)
abbrev e7a10 (g : TG) (w : LI) : Nat × Path × AV := sI 9 ((mget ([] : List (LI × Int)) [(g.1 + g.2.2.1), (0 : Int), (w.length : Int)]).getD (0 : Int))
abbrev e7a11 (g : TG) (v58 : Int) : Nat × Path × Con := hB 12 [.pI ((g.2.2.2.getD (v58).toNat ((0 : Int), ([] : LI))).1), .pS ((g.2.2.2.getD (v58).toNat ((0 : Int), ([] : LI))).2)]
abbrev e7a12 (ret78v : Int × (List (LI × Int))) : Nat × Path × Con := (70101, [], .dict (.ar 2 tI) tI ret78v.2)
abbrev e7a13 (g : TG) (v58 : Int) : Nat × Path × AV := s1 75 (.pS ((g.2.2.2.getD (v58).toNat ((0 : Int), ([] : LI))).2))
abbrev e7a14 (l7 : (List (LI × Int))) : Nat × Path × Con := (70101, [], .dict (.ar 2 tI) tI l7)
abbrev e7an0 : List Nat := [0, 1, 2, 3, 9, 56, 57, 58]
-- coppicer/coppicerkeep.trees
def VC7_k1 (K : Int × Bool → Prop) (v8 : Int) : Prop :=
  K (v8, true)
def VC7_k3 (K : Int × Bool → Prop) (n2 : Int) : Prop :=
  VC7_k1 K n2
def VC7_k2 (K : Int × Bool → Prop) (n : Int) (l7 : (List (LI × Int))) : Prop :=
  (((decide ((1099511627776 : Int) < n)) = true → VC7_k3 K (1099511627777 : Int)) ∧ ((decide ((1099511627776 : Int) < n)) = false → VC7_k3 K n))
def VC7_k4 (v58 : Int) (X1 : Int × Int × (List (LI × Int)) → Prop) (n2 : Int) (l70101 : (List (LI × Int))) : Prop :=
  (InR (v58 + (1 : Int)) ∧ X1 (n2, (v58 + (1 : Int)), l70101))
def VC7_l1 (g : TG) (w : LI) (K : Int × Bool → Prop) (n : Int) (v58 : Int) (l7 : (List (LI × Int))) (X1 : Int × Int × (List (LI × Int)) → Prop) : Prop :=
  (((decide (v58 < (g.2.2.2.length : Int))) = true → (inIdx v58 g.2.2.2.length ∧ (InR ((g.1 + g.2.2.1) - g.1) ∧ (((decide ((g.2.2.2.getD (v58).toNat ((0 : Int), ([] : LI))).1 = ((g.1 + g.2.2.1) - g.1))) = true → VCcr43 g.1 g.2.1 g.2.2.1 g.2.2.2 w ((g.2.2.2.getD (v58).toNat ((0 : Int), ([] : LI))).2) (0 : Int) (w.length : Int) l7 (fun (ret78v : Int × (List (LI × Int))) => (InR (n + ret78v.1) ∧ VC7_k4 v58 X1 (n + ret78v.1) ret78v.2))) ∧ ((decide ((g.2.2.2.getD (v58).toNat ((0 : Int), ([] : LI))).1 = ((g.1 + g.2.2.1) - g.1))) = false → VC7_k4 v58 X1 n l7))))) ∧ ((decide (v58 < (g.2.2.2.length : Int))) = false → VC7_k2 K n l7))
def VC7 (g : TG) (w : LI) (K : Int × Bool → Prop) : Prop :=
  VC18 g w (fun (ret8v : Bool) => gcall (α := Bool) (!(!ret8v)) (VC19 g) false (fun (ret12v : Bool) => ((((!ret8v) || (!ret12v)) = true → K ((0 : Int), false)) ∧ (((!ret8v) || (!ret12v)) = false → (InR (g.1 + g.2.2.1) ∧ (((decide ((g.1 + g.2.2.1) < g.1)) = true → (InR ((0 : Int) + (1 : Int)) ∧ ((decide ((w.length : Int) = ((0 : Int) + (1 : Int)))) = true → inIdx (0 : Int) w.length) ∧ ((((decide ((w.length : Int) = ((0 : Int) + (1 : Int)))) && (decide ((w.getD ((0 : Int)).toNat (0 : Int)) = (g.1 + g.2.2.1)))) = true → VC7_k1 K (1 : Int)) ∧ (((decide ((w.length : Int) = ((0 : Int) + (1 : Int)))) && (decide ((w.getD ((0 : Int)).toNat (0 : Int)) = (g.1 + g.2.2.1)))) = false → VC7_k1 K (0 : Int))))) ∧ ((decide ((g.1 + g.2.2.1) < g.1)) = false → (((decide ((0 : Int) = (w.length : Int))) = true → VC7_k1 K (0 : Int)) ∧ ((decide ((0 : Int) = (w.length : Int))) = false → (((mget ([] : List (LI × Int)) [(g.1 + g.2.2.1), (0 : Int), (w.length : Int)]).isSome = true → VC7_k1 K ((mget ([] : List (LI × Int)) [(g.1 + g.2.2.1), (0 : Int), (w.length : Int)]).getD (0 : Int))) ∧ ((mget ([] : List (LI × Int)) [(g.1 + g.2.2.1), (0 : Int), (w.length : Int)]).isSome = false → Loop (σ := Int × Int × (List (LI × Int))) (fun s X => VC7_l1 g w K s.1 s.2.1 s.2.2 X) (((mget ([] : List (LI × Int)) [(g.1 + g.2.2.1), (0 : Int), (w.length : Int)]).getD (0 : Int)), (0 : Int), ([] : List (LI × Int))))))))))))))
set_option maxHeartbeats 4000000 in
theorem link7 (g : TG) (w : LI) (K : Int × Bool → Prop) (h : VC7 g w K) : ACalls Try.prog 7 [toV1 tG g, toV1 (.sl tI) w] (fun res => ∃ y, res = (fun y => [toV1 tI y.1, toV1 .bool y.2]) y ∧ K y) := by
 refine acalls_of_aw [tI, .bool] [.t 4, .t 5] Try.func7 rfl rfl rfl ?_
 unfold VC7 at h
 refine srn 3 ⟨26, [s1 1 (.pS w), sp 2 2], [e7a3 g]⟩ (by kernel_rfl) rfl ?_
 refine aw_seq ?_
 refine sr ?_
 refine rqT 2 ⟨26, [s1 1 (.pS w), sp 2 2, sA 6 [.pI g.1, .pI g.2.1, .pI g.2.2.1, .p (.sl tR) g.2.2.2], s1 7 (.pS w)], [e7a3 g]⟩ (by kernel_rfl) ?_
 refine lcq (d := 8) [.d tG, .d (.sl tI)] (fun ret8v => (⟨26, [s1 1 (.pS w), sp 2 2, sB 8 ret8v], [e7a3 g]⟩ : St)) (by kernel_rfl) Try.call18 (fun _ => by kernel_rfl) (link18 g w _ h) (fun ret8v h => ?_)
 refine rq 3 (ob := (Ts 2 (((!ret8v) = false → True) ∧ True))) (st' := (⟨26, [s1 1 (.pS w), sp 2 2, sB 10 (!ret8v), (11, [(10, false)], .v (.agg [.pI g.1, .pI g.2.1, .pI g.2.2.1, .p (.sl tR) g.2.2.2]))], [e7a3 g]⟩ : St)) (by kernel_rfl) (tsI 2 ⟨(fun _ => trivial), trivial⟩) ?_
 refine awl_callk (p := [(10, false)]) (l := [toV1 tG g]) (cl := []) false [.d tG] [1, 2, 10, 12] [2] (fun (ret12v : Bool) => ((((!ret8v) || (!ret12v)) = true → K ((0 : Int), false)) ∧ (((!ret8v) || (!ret12v)) = false → (InR (g.1 + g.2.2.1) ∧ (((decide ((g.1 + g.2.2.1) < g.1)) = true → (InR ((0 : Int) + (1 : Int)) ∧ ((decide ((w.length : Int) = ((0 : Int) + (1 : Int)))) = true → inIdx (0 : Int) w.length) ∧ ((((decide ((w.length : Int) = ((0 : Int) + (1 : Int)))) && (decide ((w.getD ((0 : Int)).toNat (0 : Int)) = (g.1 + g.2.2.1)))) = true → VC7_k1 K (1 : Int)) ∧ (((decide ((w.length : Int) = ((0 : Int) + (1 : Int)))) && (decide ((w.getD ((0 : Int)).toNat (0 : Int)) = (g.1 + g.2.2.1)))) = false → VC7_k1 K (0 : Int))))) ∧ ((decide ((g.1 + g.2.2.1) < g.1)) = false → (((decide ((0 : Int) = (w.length : Int))) = true → VC7_k1 K (0 : Int)) ∧ ((decide ((0 : Int) = (w.length : Int))) = false → (((mget ([] : List (LI × Int)) [(g.1 + g.2.2.1), (0 : Int), (w.length : Int)]).isSome = true → VC7_k1 K ((mget ([] : List (LI × Int)) [(g.1 + g.2.2.1), (0 : Int), (w.length : Int)]).getD (0 : Int))) ∧ ((mget ([] : List (LI × Int)) [(g.1 + g.2.2.1), (0 : Int), (w.length : Int)]).isSome = false → Loop (σ := Int × Int × (List (LI × Int))) (fun s X => VC7_l1 g w K s.1 s.2.1 s.2.2 X) (((mget ([] : List (LI × Int)) [(g.1 + g.2.2.1), (0 : Int), (w.length : Int)]).getD (0 : Int)), (0 : Int), ([] : List (LI × Int))))))))))))) (fun ret12v => [toV1 .bool ret12v]) (fun ret12v => (⟨26, [s1 1 (.pS w), sp 2 2, sB 10 (!ret8v), (12, [(10, false)], .v (.c (.pB ret12v)))], [e7a3 g]⟩ : St)) (by kernel_rfl) rfl (by kernel_rfl) rfl (by kernel_rfl) Try.call19 (by kernel_rfl) (fun ret12v => by kernel_rfl) (fun e => by cases e) (fun hg => link19 g _ (by have := gcall_T h (show (!(!ret8v)) = true from hg); exact this)) (fun hg => ⟨false, by have := gcall_F h (show (!(!ret8v)) = false from hg); exact this⟩) (fun ret12v h => ?_)
 refine rq 2 (ob := (((!ret8v) = false → True) ∧ Ts 1 True)) (st' := (⟨26, [s1 1 (.pS w), sp 2 2, sB 14 ((!ret8v) || (!ret12v))], [e7a3 g]⟩ : St)) (by kernel_rfl) (⟨(fun _ => trivial), tsI 1 trivial⟩) ?_
 refine nn ?_
 refine aw_cond (b := ((!ret8v) || (!ret12v))) (by kernel_rfl) (fun hb => ?_) (fun hb => ?_)
 ·have h := h.1 hb
  refine srn 2 ⟨26, [sI 4 (0 : Int), sB 5 false], []⟩ (by kernel_rfl) rfl ?_
  refine aw_ret ?_
  refine thenQ_r ?_
  exact retQ_r (ob := Ts 2 True) _ (by kernel_rfl) (tsI 2 trivial) h
 ·have h := h.2 hb
  refine aw_skip ?_
  refine thenQ_n ?_
  refine aw_seq ?_
  refine aw_conv [.ren 2 30000] (st' := (⟨26, [s1 1 (.pS w), sp 2 30000, sB 14 ((!ret8v) || (!ret12v))], [hB 30000 [.pI g.1, .pI g.2.1, .pI g.2.2.1, .p (.sl tR) g.2.2.2]]⟩ : St)) (by kernel_rfl) ?_
  refine awd_begin [7, 9] (by kernel_rfl) ?_
  obtain ⟨o1, h⟩ := h
  refine drq (by kernel_rfl) [0, 1, 3, 4, 5, 6, 7, 8, 9] (ob := (Ts 6 (InR (g.1 + g.2.2.1) ∧ Ts 2 True))) (done' := [9, 8, 7, 6, 5, 4, 3, 1, 0]) (st' := (⟨26, [sA 15 [.pI g.1, .pI g.2.1, .pI g.2.2.1, .p (.sl tR) g.2.2.2], s1 16 (.pS w), sI 22 (g.1 + g.2.2.1), sI 24 (w.length : Int)], []⟩ : St)) (by kernel_rfl) (tsI 6 ⟨o1, tsI 2 trivial⟩) ?_
  refine awd_one (i := 2) (by kernel_rfl) ?_
  refine adop_inlr [.t 4] [.agg [.pI g.1, .pI g.2.1, .pI g.2.2.1, .p (.sl tR) g.2.2.2], .c (.pS w)] [] rfl rfl rfl (by kernel_rfl) rfl (by kernel_rfl) Try.call20 (by kernel_rfl) (by kernel_rfl) Try.func20 rfl rfl (by kernel_rfl) ?_
  refine aw_conv [] (st' := (⟨10, [sA 0 [.pI g.1, .pI g.2.1, .pI g.2.2.1, .p (.sl tR) g.2.2.2], s1 1 (.pS w), sA 25 [.pI g.1, .pI g.2.1, .pI g.2.2.1, .p (.sl tR) g.2.2.2], s1 26 (.pS w), sI 32 (g.1 + g.2.2.1), sI 34 (w.length : Int)], []⟩ : St)) (by kernel_rfl) ?_
  refine sr ?_
  refine rqT 2 ⟨10, [s1 1 (.pS w), sp 2 2, sI 32 (g.1 + g.2.2.1), sI 34 (w.length : Int)], [e7a3 g]⟩ (by kernel_rfl) ?_
  refine nsr ?_
  refine rqT 6 ⟨10, [sp 4 9, sI 32 (g.1 + g.2.2.1), sI 34 (w.length : Int)], [e7a4, e7a0 g w]⟩ (by kernel_rfl) ?_
  refine nn ?_
  refine aw_ret ?_
  refine inlR_r (ob := True) (.v (.c (.ptr 9 0))) (by kernel_rfl) trivial rfl ?_
  refine dpr (st' := (⟨26, [sp 17 9, sI 22 (g.1 + g.2.2.1), sI 24 (w.length : Int)], [e7a4, e7a0 g w]⟩ : St)) (by kernel_rfl) ?_
  refine awd_one (i := 10) (by kernel_rfl) ?_
  refine adop_inlr [.t 8] [.c (.ptr 9 0), .c (.pI (g.1 + g.2.2.1)), .c (.pI (0 : Int)), .c (.pI (w.length : Int))] [] rfl rfl rfl (by kernel_rfl) rfl (by kernel_rfl) Try.call21 (by kernel_rfl) (by kernel_rfl) Try.func21 rfl rfl (by kernel_rfl) ?_
  refine aw_conv [] (st' := (⟨93, [sp 0 9, e7a6 g, e7a9, e7a5 w, sp 110 9, sI 115 (g.1 + g.2.2.1), sI 117 (w.length : Int)], [e7a4, e7a0 g w]⟩ : St)) (by kernel_rfl) ?_
  refine withJoinR (σ := Int) (fun s => (⟨93, [sI 8 s], []⟩ : St)) (fun s => VC7_k1 K s) (fun v8 h => ?_) (fun rest1 => ?_)
  ·have h : VC7_k1 K v8 := h
   unfold VC7_k1 at h
   refine inlR_n (ob := True) (.v (.c (.pI v8))) (by kernel_rfl) trivial rfl ?_
   refine dpr (st' := (⟨26, [sI 25 v8], []⟩ : St)) (by kernel_rfl) ?_
   refine drq (by kernel_rfl) [11, 12] (ob := (Ts 2 True)) (done' := [12, 11, 10, 2, 9, 8, 7, 6, 5, 4, 3, 1, 0]) (st' := (⟨26, [sI 4 v8, sB 5 true], []⟩ : St)) (by kernel_rfl) (tsI 2 trivial) ?_
   refine awd_done (by kernel_rfl) ?_
   refine thenQ_n ?_
   refine aw_ret ?_
   exact retQ_r (ob := Ts 2 True) _ (by kernel_rfl) (tsI 2 trivial) h
  ·refine srn 1 ⟨93, [sp 0 9, e7a6 g, e7a9, e7a5 w], [e7a4, e7a0 g w]⟩ (by kernel_rfl) rfl ?_
   refine aw_seq ?_
   refine srn 7 ⟨93, [sp 0 9, e7a6 g, e7a9, e7a5 w, sB 19 (decide ((g.1 + g.2.2.1) < g.1))], [e7a4, e7a0 g w]⟩ (by kernel_rfl) rfl ?_
   refine aw_cond (b := (decide ((g.1 + g.2.2.1) < g.1))) (by kernel_rfl) (fun hb => ?_) (fun hb => ?_)
   ·have h := h.1 hb
    refine aw_seq ?_
    refine sr ?_
    obtain ⟨o1, o2, h⟩ := h
    refine rq 15 (ob := (Ts 2 (InR ((0 : Int) + (1 : Int)) ∧ Ts 2 (Ti 5 ((decide ((w.length : Int) = ((0 : Int) + (1 : Int)))) = true → True) (((decide ((w.length : Int) = ((0 : Int) + (1 : Int)))) = true → inIdx (0 : Int) w.length) ∧ Ti 3 ((decide ((w.length : Int) = ((0 : Int) + (1 : Int)))) = true → True) (Ts 1 True)))))) (st' := (⟨93, [sB 34 ((decide ((w.length : Int) = ((0 : Int) + (1 : Int)))) && (decide ((w.getD ((0 : Int)).toNat (0 : Int)) = (g.1 + g.2.2.1))))], []⟩ : St)) (by kernel_rfl) (tsI 2 (⟨o1, tsI 2 (tiI 5 (fun _ => trivial) ⟨o2, tiI 3 (fun _ => trivial) (tsI 1 trivial)⟩)⟩)) ?_
    refine nn ?_
    refine aw_cond (b := ((decide ((w.length : Int) = ((0 : Int) + (1 : Int)))) && (decide ((w.getD ((0 : Int)).toNat (0 : Int)) = (g.1 + g.2.2.1))))) (by kernel_rfl) (fun hb => ?_) (fun hb => ?_)
    ·have h := h.1 hb
     refine srn 1 ⟨93, [sI 8 (1 : Int)], []⟩ (by kernel_rfl) rfl ?_
     refine aw_ret ?_
     refine thenQ_r ?_
     refine thenQ_r ?_
     exact rest1 (1 : Int) h
    ·have h := h.2 hb
     refine aw_skip ?_
     refine thenQ_n ?_
     refine srn 1 ⟨93, [sI 8 (0 : Int)], []⟩ (by kernel_rfl) rfl ?_
     refine aw_ret ?_
     refine thenQ_r ?_
     exact rest1 (0 : Int) h
   ·have h := h.2 hb
    refine aw_skip ?_
    refine thenQ_n ?_
    refine aw_seq ?_
    refine srn 3 ⟨93, [sp 0 9, e7a6 g, e7a9, e7a5 w, sB 37 (decide ((0 : Int) = (w.length : Int)))], [e7a4, e7a0 g w]⟩ (by kernel_rfl) rfl ?_
    refine aw_cond (b := (decide ((0 : Int) = (w.length : Int)))) (by kernel_rfl) (fun hb => ?_) (fun hb => ?_)
    ·have h := h.1 hb
     refine srn 1 ⟨93, [sI 8 (0 : Int)], []⟩ (by kernel_rfl) rfl ?_
     refine aw_ret ?_
     refine thenQ_r ?_
     exact rest1 (0 : Int) h
    ·have h := h.2 hb
     refine aw_skip ?_
     refine thenQ_n ?_
     refine srn 14 ⟨93, [sp 0 9, e7a6 g, e7a9, e7a5 w, e7a10 g w, sB 10 ((mget ([] : List (LI × Int)) [(g.1 + g.2.2.1), (0 : Int), (w.length : Int)]).isSome)], [e7a4, e7a0 g w]⟩ (by kernel_rfl) rfl ?_
     refine aw_seq ?_
     refine srn 1 ⟨93, [sp 0 9, e7a6 g, e7a9, e7a5 w, e7a10 g w, sB 50 ((mget ([] : List (LI × Int)) [(g.1 + g.2.2.1), (0 : Int), (w.length : Int)]).isSome)], [e7a4, e7a0 g w]⟩ (by kernel_rfl) rfl ?_
     refine aw_cond (b := (mget ([] : List (LI × Int)) [(g.1 + g.2.2.1), (0 : Int), (w.length : Int)]).isSome) (by kernel_rfl) (fun hb => ?_) (fun hb => ?_)
     ·have h := h.1 hb
      refine srn 2 ⟨93, [sI 8 ((mget ([] : List (LI × Int)) [(g.1 + g.2.2.1), (0 : Int), (w.length : Int)]).getD (0 : Int))], []⟩ (by kernel_rfl) rfl ?_
      refine aw_ret ?_
      refine thenQ_r ?_
      exact rest1 ((mget ([] : List (LI × Int)) [(g.1 + g.2.2.1), (0 : Int), (w.length : Int)]).getD (0 : Int)) h
     ·have h := h.2 hb
      refine aw_skip ?_
      refine thenQ_n ?_
      refine aw_seq ?_
      refine srn 7 ⟨93, [sp 0 9, e7a6 g, e7a9, e7a5 w, e7a10 g w, e7a2 g, e7a8 g, sI 58 (0 : Int)], [e7a4, e7a0 g w]⟩ (by kernel_rfl) rfl ?_
      refine withJoin (σ := Int × (List (LI × Int))) (fun s => (⟨93, [sp 0 9, e7a6 g, e7a9, e7a5 w, sI 9 s.1], [(7, [], .dict (.ar 2 tI) tI s.2), e7a0 g w]⟩ : St)) (fun s => VC7_k2 K s.1 s.2) (fun s h => ?_) (fun rest3 => ?_)
      ·obtain ⟨n, l7⟩ := s
       have h : VC7_k2 K n l7 := h
       unfold VC7_k2 at h
       refine thenQ_n ?_
       refine aw_seq ?_
       refine srn 2 ⟨93, [sp 0 9, e7a6 g, e7a9, e7a5 w, sI 9 n, sB 82 (decide ((1099511627776 : Int) < n))], [e7a7 l7, e7a0 g w]⟩ (by kernel_rfl) rfl ?_
       refine withJoin (σ := Int) (fun s => (⟨93, [sp 0 9, e7a6 g, e7a9, e7a5 w, sI 9 s], [e7a7 l7, e7a0 g w]⟩ : St)) (fun s => VC7_k3 K s) (fun n2 h => ?_) (fun rest2 => ?_)
       ·have h : VC7_k3 K n2 := h
        unfold VC7_k3 at h
        refine thenQ_n ?_
        refine sr ?_
        refine rqT 10 ⟨93, [sI 9 n2], []⟩ (by kernel_rfl) ?_
        refine nsr ?_
        refine rqT 2 ⟨93, [sI 8 n2], []⟩ (by kernel_rfl) ?_
        refine nn ?_
        refine aw_ret ?_
        exact rest1 n2 h
       ·refine aw_cond (b := (decide ((1099511627776 : Int) < n))) (by kernel_rfl) (fun hb => ?_) (fun hb => ?_)
        ·have h := h.1 hb
         refine aw_region ?_
         refine rqT 1 ⟨93, [sp 0 9, e7a6 g, e7a9, e7a5 w, sI 9 (1099511627777 : Int)], [e7a7 l7, e7a0 g w]⟩ (by kernel_rfl) ?_
         refine awl_nil ?_
         exact rest2 (1099511627777 : Int) h
        ·have h := h.2 hb
         refine cpr (st' := (⟨93, [sp 0 9, e7a6 g, e7a9, e7a5 w, sI 9 n], [e7a7 l7, e7a0 g w]⟩ : St)) (by kernel_rfl) ?_
         refine aw_skip ?_
         exact rest2 n h
      ·refine aw_block ?_
       refine aw_loop (σ := Int × Int × (List (LI × Int))) (fun s => (⟨93, [sp 0 9, e7a6 g, e7a9, e7a5 w, sI 9 s.1, e7a2 g, e7a8 g, sI 58 s.2.1], [(7, [], .dict (.ar 2 tI) tI s.2.2), e7a0 g w]⟩ : St)) (fun s X => VC7_l1 g w K s.1 s.2.1 s.2.2 X) (s0 := (((mget ([] : List (LI × Int)) [(g.1 + g.2.2.1), (0 : Int), (w.length : Int)]).getD (0 : Int)), (0 : Int), ([] : List (LI × Int)))) (fun s X1 h => ?_) h
       obtain ⟨n, v58, l7⟩ := s
       have h : VC7_l1 g w K n v58 l7 X1 := h
       unfold VC7_l1 at h
       refine srn 1 ⟨93, [sp 0 9, e7a6 g, e7a9, e7a5 w, sI 9 n, e7a2 g, e7a8 g, sI 58 v58, sB 59 (decide (v58 < (g.2.2.2.length : Int)))], [e7a7 l7, e7a0 g w]⟩ (by kernel_rfl) rfl ?_
       refine aw_seq ?_
       refine aw_cond (b := (decide (v58 < (g.2.2.2.length : Int)))) (by kernel_rfl) (fun hb => ?_) (fun hb => ?_)
       ·have h := h.1 hb
        refine aw_skip ?_
        refine thenQ_n ?_
        refine aw_seq ?_
        refine aw_block ?_
        refine sr ?_
        obtain ⟨o1, h⟩ := h
        refine rq 4 (ob := (inIdx v58 g.2.2.2.length ∧ Ts 3 True)) (st' := (⟨93, [sp 0 9, e7a6 g, e7a9, e7a5 w, sI 9 n, sp 12 12, e7a2 g, e7a8 g, sI 58 v58], [e7a7 l7, e7a0 g w, e7a11 g v58]⟩ : St)) (by kernel_rfl) (⟨o1, tsI 3 trivial⟩) ?_
        refine nn ?_
        refine aw_seq ?_
        refine awd_begin [] (by kernel_rfl) ?_
        obtain ⟨o1, h⟩ := h
        refine drq (by kernel_rfl) [0, 1, 2, 3, 4, 5, 6, 7, 8, 9] (ob := (Ts 8 (InR ((g.1 + g.2.2.1) - g.1) ∧ Ts 1 True))) (done' := [9, 8, 7, 6, 5, 4, 3, 2, 1, 0]) (st' := (⟨93, [sp 0 9, e7a6 g, e7a9, e7a5 w, sI 9 n, sp 12 12, e7a2 g, e7a8 g, sI 58 v58, sB 71 (decide ((g.2.2.2.getD (v58).toNat ((0 : Int), ([] : LI))).1 = ((g.1 + g.2.2.1) - g.1)))], [e7a7 l7, e7a0 g w, e7a11 g v58]⟩ : St)) (by kernel_rfl) (tsI 8 ⟨o1, tsI 1 trivial⟩) ?_
        refine awd_done (by kernel_rfl) ?_
        refine thenQ_n ?_
        refine withJoin (σ := Int × (List (LI × Int))) (fun s => (⟨93, [sp 0 70100, e7a6 g, e7a9, e7a5 w, sI 9 s.1, e7a2 g, e7a8 g, sI 58 v58], [e7a1 g w, (70101, [], .dict (.ar 2 tI) tI s.2)]⟩ : St)) (fun s => VC7_k4 v58 X1 s.1 s.2) (fun s h => ?_) (fun rest4 => ?_)
        ·obtain ⟨n2, l70101⟩ := s
         have h : VC7_k4 v58 X1 n2 l70101 := h
         unfold VC7_k4 at h
         refine blockQ_n ?_
         refine thenQ_n ?_
         refine aw_region ?_
         obtain ⟨o1, h⟩ := h
         refine rq 2 (ob := (InR (v58 + (1 : Int)) ∧ Ts 1 True)) (st' := (⟨93, [sp 0 70100, e7a6 g, e7a9, e7a5 w, sI 9 n2, e7a2 g, e7a8 g, sI 58 (v58 + (1 : Int))], [e7a1 g w, (70101, [], .dict (.ar 2 tI) tI l70101)]⟩ : St)) (by kernel_rfl) (⟨o1, tsI 1 trivial⟩) ?_
         refine awl_conv [.ren 70100 90100, .ren 70101 90101, .ren 90100 9, .ren 90101 7, .prune e7an0 [7, 9]] (st' := (⟨93, [sp 0 9, e7a6 g, e7a9, e7a5 w, sI 9 n2, e7a2 g, e7a8 g, sI 58 (v58 + (1 : Int))], [(7, [], .dict (.ar 2 tI) tI l70101), e7a0 g w]⟩ : St)) (by kernel_rfl) ?_
         refine awl_nil ?_
         exact thenQ_n ⟨(n2, (v58 + (1 : Int)), l70101), rfl, h⟩
        ·refine aw_cond (b := (decide ((g.2.2.2.getD (v58).toNat ((0 : Int), ([] : LI))).1 = ((g.1 + g.2.2.1) - g.1)))) (by kernel_rfl) (fun hb => ?_) (fun hb => ?_)
         ·have h := h.1 hb
          refine aw_region ?_
          refine rqT 6 ⟨93, [sp 0 9, e7a6 g, e7a9, e7a5 w, e7a2 g, e7a8 g, sI 58 v58, sI 72 n, sp 73 9, e7a13 g v58, sI 76 (0 : Int), sI 77 (w.length : Int)], [e7a7 l7, e7a0 g w]⟩ (by kernel_rfl) ?_
          refine awl_conv [.ren 9 70100, .ren 7 70101] (st' := (⟨93, [sp 0 70100, e7a6 g, e7a9, e7a5 w, e7a2 g, e7a8 g, sI 58 v58, sI 72 n, sp 73 70100, e7a13 g v58, sI 76 (0 : Int), sI 77 (w.length : Int)], [e7a14 l7, e7a1 g w]⟩ : St)) (by kernel_rfl) ?_
          refine awl_lcall (σ := Int × (List (LI × Int))) [70100, 70101] [70100] [.c (.ptr 70100 0), .c (.pS ((g.2.2.2.getD (v58).toNat ((0 : Int), ([] : LI))).2)), .c (.pI (0 : Int)), .c (.pI (w.length : Int))] [] (fun ret78v => .v (.c (.pI ret78v.1))) (fun ret78v => [e7a1 g w, e7a12 ret78v]) (_) [e7a1 g w, e7a14 l7] (fun ret78v => (⟨93, [sI 78 ret78v.1, sp 0 70100, e7a6 g, e7a9, e7a5 w, e7a2 g, e7a8 g, sI 58 v58, sI 72 n, sp 73 70100, e7a13 g v58, sI 76 (0 : Int), sI 77 (w.length : Int)], [e7a1 g w, e7a12 ret78v]⟩ : St)) rfl rfl (by kernel_rfl) rfl (by kernel_rfl) Try.call43 (by kernel_rfl) (by kernel_rfl) (by kernel_rfl) (fun _ _ => rfl) (fun _ => by kernel_rfl) (linkcr43 g.1 g.2.1 g.2.2.1 g.2.2.2 w ((g.2.2.2.getD (v58).toNat ((0 : Int), ([] : LI))).2) (0 : Int) (w.length : Int) l7 _ h) (fun ret78v h => ?_)
          refine lpr (st' := (⟨93, [sp 0 70100, e7a6 g, e7a9, e7a5 w, e7a2 g, e7a8 g, sI 58 v58, sI 72 n, sI 78 ret78v.1], [e7a1 g w, e7a12 ret78v]⟩ : St)) (by kernel_rfl) ?_
          obtain ⟨o1, h⟩ := h
          refine rq 2 (ob := (InR (n + ret78v.1) ∧ Ts 1 True)) (st' := (⟨93, [sp 0 70100, e7a6 g, e7a9, e7a5 w, sI 9 (n + ret78v.1), e7a2 g, e7a8 g, sI 58 v58], [e7a1 g w, e7a12 ret78v]⟩ : St)) (by kernel_rfl) (⟨o1, tsI 1 trivial⟩) ?_
          refine awl_nil ?_
          exact rest4 ((n + ret78v.1), ret78v.2) h
         ·have h := h.2 hb
          refine aw_conv [.prune e7an0 [7, 9], .ren 9 20009, .ren 7 20007, .ren 20009 70100, .ren 20007 70101, .prune e7an0 [70100, 70101]] (st' := (⟨93, [sp 0 70100, e7a6 g, e7a9, e7a5 w, sI 9 n, e7a2 g, e7a8 g, sI 58 v58], [e7a1 g w, e7a14 l7]⟩ : St)) (by kernel_rfl) ?_
          refine aw_skip ?_
          exact rest4 (n, l7) h
       ·have h := h.2 hb
        refine cpr (st' := (⟨93, [sp 0 9, e7a6 g, e7a9, e7a5 w, sI 9 n], [e7a7 l7, e7a0 g w]⟩ : St)) (by kernel_rfl) ?_
        refine aw_exit ?_
        refine thenQ_x ?_
        refine thenQ_x ?_
        refine blockQ_hit ?_
        exact rest3 (n, l7) h
abbrev e8_0 (l : LI) : Nat × Path × AV := sI 8 (l.length : Int)
-- coppicer/coppicerkeep.inside
def VC8_k1 (K : Bool → Prop) : Prop :=
  K true
def VC8_l1 (n : Int) (l : LI) (K : Bool → Prop) (v9 : Int) (X1 : Int → Prop) : Prop :=
  (((decide (v9 < (l.length : Int))) = true → (inIdx v9 l.length ∧ ((((decide ((l.getD (v9).toNat (0 : Int)) < (0 : Int))) || (decide (n ≤ (l.getD (v9).toNat (0 : Int))))) = true → K false) ∧ (((decide ((l.getD (v9).toNat (0 : Int)) < (0 : Int))) || (decide (n ≤ (l.getD (v9).toNat (0 : Int))))) = false → (InR (v9 + (1 : Int)) ∧ X1 (v9 + (1 : Int))))))) ∧ ((decide (v9 < (l.length : Int))) = false → VC8_k1 K))
def VC8 (n : Int) (l : LI) (K : Bool → Prop) : Prop :=
  Loop (σ := Int) (fun s X => VC8_l1 n l K s X) (0 : Int)
set_option maxHeartbeats 4000000 in
theorem link8 (n : Int) (l : LI) (K : Bool → Prop) (h : VC8 n l K) : ACalls Try.prog 8 [toV1 tI n, toV1 (.sl tI) l] (fun res => ∃ y, res = (fun y => [toV1 .bool y]) y ∧ K y) := by
 refine acalls_of_aw [.bool] [.t 4] Try.func8 rfl rfl rfl ?_
 unfold VC8 at h
 refine srn 1 ⟨21, [sI 0 n, s1 1 (.pS l)], []⟩ (by kernel_rfl) rfl ?_
 refine aw_seq ?_
 refine srn 3 ⟨21, [sI 0 n, s1 7 (.pS l), e8_0 l, sI 9 (0 : Int)], []⟩ (by kernel_rfl) rfl ?_
 refine withJoin (σ := Unit) (fun s => (⟨21, [], []⟩ : St)) (fun s => VC8_k1 K) (fun s h => ?_) (fun rest1 => ?_)
 ·have h : VC8_k1 K := h
  unfold VC8_k1 at h
  refine thenQ_n ?_
  refine srn 1 ⟨21, [sB 4 true], []⟩ (by kernel_rfl) rfl ?_
  refine aw_ret ?_
  exact retQ_r (ob := Ts 1 True) _ (by kernel_rfl) (tsI 1 trivial) h
 ·refine aw_block ?_
  refine aw_loop (σ := Int) (fun s => (⟨21, [sI 0 n, s1 7 (.pS l), e8_0 l, sI 9 s], []⟩ : St)) (fun s X => VC8_l1 n l K s X) (s0 := (0 : Int)) (fun v9 X1 h => ?_) h
  have h : VC8_l1 n l K v9 X1 := h
  unfold VC8_l1 at h
  refine srn 1 ⟨21, [sI 0 n, s1 7 (.pS l), e8_0 l, sI 9 v9, sB 10 (decide (v9 < (l.length : Int)))], []⟩ (by kernel_rfl) rfl ?_
  refine aw_seq ?_
  refine aw_cond (b := (decide (v9 < (l.length : Int)))) (by kernel_rfl) (fun hb => ?_) (fun hb => ?_)
  ·have h := h.1 hb
   refine aw_skip ?_
   refine thenQ_n ?_
   refine aw_seq ?_
   refine aw_block ?_
   refine sr ?_
   obtain ⟨o1, h⟩ := h
   refine rq 3 (ob := (inIdx v9 l.length ∧ Ts 2 True)) (st' := (⟨21, [sI 0 n, sI 6 (l.getD (v9).toNat (0 : Int)), s1 7 (.pS l), e8_0 l, sI 9 v9], []⟩ : St)) (by kernel_rfl) (⟨o1, tsI 2 trivial⟩) ?_
   refine nsr ?_
   refine rq 7 (ob := (Ts 3 (Ti 3 ((decide ((l.getD (v9).toNat (0 : Int)) < (0 : Int))) = false → True) (Ts 1 True)))) (st' := (⟨21, [sI 0 n, s1 7 (.pS l), e8_0 l, sI 9 v9, sB 19 ((decide ((l.getD (v9).toNat (0 : Int)) < (0 : Int))) || (decide (n ≤ (l.getD (v9).toNat (0 : Int)))))], []⟩ : St)) (by kernel_rfl) (tsI 3 (tiI 3 (fun _ => trivial) (tsI 1 trivial))) ?_
   refine nn ?_
   refine aw_cond (b := ((decide ((l.getD (v9).toNat (0 : Int)) < (0 : Int))) || (decide (n ≤ (l.getD (v9).toNat (0 : Int)))))) (by kernel_rfl) (fun hb => ?_) (fun hb => ?_)
   ·have h := h.1 hb
    refine srn 1 ⟨21, [sB 4 false], []⟩ (by kernel_rfl) rfl ?_
    refine aw_ret ?_
    refine blockQ_r ?_
    refine thenQ_r ?_
    refine thenQ_r ?_
    refine blockQ_r ?_
    refine thenQ_r ?_
    exact retQ_r (ob := Ts 1 True) _ (by kernel_rfl) (tsI 1 trivial) h
   ·have h := h.2 hb
    refine aw_skip ?_
    refine blockQ_n ?_
    refine thenQ_n ?_
    refine aw_region ?_
    obtain ⟨o1, h⟩ := h
    refine rq 2 (ob := (InR (v9 + (1 : Int)) ∧ Ts 1 True)) (st' := (⟨21, [sI 0 n, s1 7 (.pS l), e8_0 l, sI 9 (v9 + (1 : Int))], []⟩ : St)) (by kernel_rfl) (⟨o1, tsI 1 trivial⟩) ?_
    refine awl_nil ?_
    exact thenQ_n ⟨(v9 + (1 : Int)), rfl, h⟩
  ·have h := h.2 hb
   refine cpr (st' := (⟨21, [], []⟩ : St)) (by kernel_rfl) ?_
   refine aw_exit ?_
   refine thenQ_x ?_
   refine thenQ_x ?_
   refine blockQ_hit ?_
   exact rest1 () h
end Dec
