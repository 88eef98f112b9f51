/-
  Printed by dec2.py: of each function its plain demand, and that the demand gives the contract.
-/
import Derived.Test.YtfchgkifdfgbmaaGenCa
set_option linter.unusedVariables false
set_option linter.unusedSimpArgs false
set_option maxRecDepth 100000
namespace Dec
open Go Go.RowKit Go.Proofs
abbrev e6b0 (g : TG) (w : LI) (rv : (List ((Int × Int) × Int))) : Nat × Path × Con := hB 70000 [.pI g.1, .pI g.2.1, .pI g.2.2.1, .p (.sl tR) g.2.2.2, .pS w, .p (.mp (.pr tI tI) (.int .u32)) rv, .own 70001]
abbrev e6b1 (ret51v : (List ((Int × (Int × Int)) × (List (Int × LN))))) : Nat × Path × Con := (70001, [], .dict t3 (.sl (.pr tI (.sl t3))) ret51v)
abbrev e6b2 (number : (List ((Int × (Int × Int)) × Int))) (g : TG) (w : LI) : Nat × Path × Con := hB 11 [.own 6220, .pI ((mget number ((g.1 + g.2.2.1), ((0 : Int), (w.length : Int)))).getD (0 : Int))]
abbrev e6b3 (l6220 : (List (Int × (Int × (Int × LL))))) : Nat × Path × Con := hA 6220 36 (.pr tI (.pr tI (.pr tI (.sl (.sl tI))))) l6220
abbrev e6b4 (srtv : List (Int × (Int × Int))) (v57 : Int) : Nat × Path × Con := hB 14 [.pI ((srtv.getD ((v57).toNat) z3).1), .pI ((srtv.getD ((v57).toNat) z3).2.1), .pI ((srtv.getD ((v57).toNat) z3).2.2), .own 6283]
abbrev e6b5 : Nat × Path × Con := hB 4 [.nils, .pI (0 : Int)]
abbrev e6b6 (ret51v : (List ((Int × (Int × Int)) × (List (Int × LN))))) (srtv : List (Int × (Int × Int))) (v57 : Int) : Nat × Path × AV := s1 75 (.p (.sl (.pr tI (.sl t3))) ((mget ret51v (srtv.getD ((v57).toNat) z3)).getD ([] : (List (Int × LN)))))
abbrev e6b7 : Nat × Path × Con := hB 30000 [.nils, .pI (0 : Int)]
abbrev e6b8 (g : TG) : Nat × Path × Con := hB 2 [.pI g.1, .pI g.2.1, .pI g.2.2.1, .p (.sl tR) g.2.2.2]
abbrev e6b9 (ret51v : (List ((Int × (Int × Int)) × (List (Int × LN))))) (srtv : List (Int × (Int × Int))) (v57 : Int) : Nat × Path × AV := sI 76 (((mget ret51v (srtv.getD ((v57).toNat) z3)).getD ([] : (List (Int × LN)))).length : Int)
abbrev e6b10 (g : TG) (w : LI) : Nat × Path × Con := hB 3 [.pI (g.1 + g.2.2.1), .pI (0 : Int), .pI (w.length : Int)]
abbrev e6b11 : Nat × Path × Con := (25, [], .dict t3 (.sl (.pr tI (.sl t3))) ([] : List ((Int × (Int × Int)) × (List (Int × LN)))))
abbrev e6b12 (number : (List ((Int × (Int × Int)) × Int))) : Nat × Path × Con := (39, [], .dict t3 tI number)
abbrev e6b13 (ret51v : (List ((Int × (Int × Int)) × (List (Int × LN))))) (srtv : List (Int × (Int × Int))) (v57 : Int) (v77 : Int) : Nat × Path × AV := sI 86 (((((mget ret51v (srtv.getD ((v57).toNat) z3)).getD ([] : (List (Int × LN)))).getD (v77).toNat ((0 : Int), ([] : LN))).2).length : Int)
abbrev e6b14 (ret51v : (List ((Int × (Int × Int)) × (List (Int × LN))))) (srtv : List (Int × (Int × Int))) (v57 : Int) (v77 : Int) : Nat × Path × AV := s1 85 (.p (.sl t3) ((((mget ret51v (srtv.getD ((v57).toNat) z3)).getD ([] : (List (Int × LN)))).getD (v77).toNat ((0 : Int), ([] : LN))).2))
abbrev e6b15 (srtv : List (Int × (Int × Int))) : Nat × Path × AV := sI 56 (srtv.length : Int)
abbrev e6b16 : Nat × Path × AV := sp 120 30000
abbrev e6b17 (srtv : List (Int × (Int × Int))) : Nat × Path × Con := hA 5006 58 t3 srtv
abbrev e6b18 (g : TG) (w : LI) (rv : (List ((Int × Int) × Int))) : Nat × Path × Con := hB 27 [.pI g.1, .pI g.2.1, .pI g.2.2.1, .p (.sl tR) g.2.2.2, .pS w, .p (.mp (.pr tI tI) (.int .u32)) rv, .own 25]
abbrev e6b19 (g : TG) (w : LI) (ret24v : (List ((Int × Int) × Int))) : Nat × Path × Con := hB 27 [.pI g.1, .pI g.2.1, .pI g.2.2.1, .p (.sl tR) g.2.2.2, .pS w, .p (.mp (.pr tI tI) (.int .u32)) ret24v, .own 25]
abbrev e6b20 : Nat × Path × AV := sp 0 70000
abbrev e6b21 : Nat × Path × AV := s1 8 (.own 39)
abbrev e6b22 : Nat × Path × AV := sp 4 4
abbrev e6b23 : Nat × Path × AV := s1 55 (.own 5006)
abbrev e6b24 (l6283 : LL) : Nat × Path × Con := hA 6283 25 (.sl tI) l6283
abbrev e6b25 (ret51v : (List ((Int × (Int × Int)) × (List (Int × LN))))) (srtv : List (Int × (Int × Int))) (v57 : Int) (v77 : Int) : Nat × Path × Con := hB 16 [.pI ((((mget ret51v (srtv.getD ((v57).toNat) z3)).getD ([] : (List (Int × LN)))).getD (v77).toNat ((0 : Int), ([] : LN))).1), .p (.sl t3) ((((mget ret51v (srtv.getD ((v57).toNat) z3)).getD ([] : (List (Int × LN)))).getD (v77).toNat ((0 : Int), ([] : LN))).2)]
abbrev e6b26 (g : TG) (w : LI) : Nat × Path × Con := hB 8 [.pI (g.1 + g.2.2.1), .pI (0 : Int), .pI (w.length : Int)]
abbrev e6b27 (g : TG) : Nat × Path × AV := sA 20 [.pI g.1, .pI g.2.1, .pI g.2.2.1, .p (.sl tR) g.2.2.2]
abbrev e6b28 (l6220 : (List (Int × (Int × (Int × LL))))) (srtv : List (Int × (Int × Int))) (v57 : Int) (srtv2 : List LI) : Nat × Path × Con := hA 112 36 (.pr tI (.pr tI (.pr tI (.sl (.sl tI))))) (l6220 ++ [((srtv.getD ((v57).toNat) z3).1, ((srtv.getD ((v57).toNat) z3).2.1, ((srtv.getD ((v57).toNat) z3).2.2, srtv2)))])
abbrev e6b29 : Nat × Path × AV := s1 6 (.own 5006)
abbrev e6b30 (ret51v : (List ((Int × (Int × Int)) × (List (Int × LN))))) (l24 : (List Nat)) (j25 : Nat) : Nat × Path × Con := (24, [], .mit (.own 70001) ret51v.length (l24 ++ [j25]))
abbrev e6b31 (g : TG) (w : LI) (ret24v : (List ((Int × Int) × Int))) : Nat × Path × AV := sA 26 [.pI g.1, .pI g.2.1, .pI g.2.2.1, .p (.sl tR) g.2.2.2, .pS w, .p (.mp (.pr tI tI) (.int .u32)) ret24v, .own 25]
abbrev e6b32 : Nat × Path × AV := sp 11 11
abbrev e6b33 (srtv : List (Int × (Int × Int))) (v57 : Int) : Nat × Path × Con := hB 14 [.pI ((srtv.getD ((v57).toNat) z3).1), .pI ((srtv.getD ((v57).toNat) z3).2.1), .pI ((srtv.getD ((v57).toNat) z3).2.2), .own 102]
abbrev e6b34 (srtv : List (Int × (Int × Int))) (v57 : Int) : Nat × Path × Con := hB 14 [.pI ((srtv.getD ((v57).toNat) z3).1), .pI ((srtv.getD ((v57).toNat) z3).2.1), .pI ((srtv.getD ((v57).toNat) z3).2.2), .nils]
abbrev e6b35 (srtv : List (Int × (Int × Int))) (v57 : Int) : Nat × Path × Con := hB 13 [.pI ((srtv.getD ((v57).toNat) z3).1), .pI ((srtv.getD ((v57).toNat) z3).2.1), .pI ((srtv.getD ((v57).toNat) z3).2.2)]
abbrev e6b36 (w : LI) : Nat × Path × AV := s1 1 (.pS w)
abbrev e6b37 : Nat × Path × Con := (70001, [], .dict t3 (.sl (.pr tI (.sl t3))) ([] : List ((Int × (Int × Int)) × (List (Int × LN)))))
abbrev e6b38 : Nat × Path × AV := sp 14 14
abbrev e6b39 (ret24v : (List ((Int × Int) × Int))) : Nat × Path × AV := s1 24 (.p (.mp (.pr tI tI) (.int .u32)) ret24v)
abbrev e6b40 (g : TG) (w : LI) : Nat × Path × AV := sA 50 [.pI (g.1 + g.2.2.1), .pI (0 : Int), .pI (w.length : Int)]
abbrev e6b41 (g : TG) : Nat × Path × AV := sA 22 [.pI g.1, .pI g.2.1, .pI g.2.2.1, .p (.sl tR) g.2.2.2]
abbrev e6b42 (keys : LN) : Nat × Path × Con := hA 5006 58 t3 keys
abbrev e6b43 : Nat × Path × Con := (39, [], .dict t3 tI ([] : List ((Int × (Int × Int)) × Int)))
abbrev e6b44 : Nat × Path × AV := s1 17 (.own 83)
abbrev e6b45 : Nat × Path × AV := s1 40 (.own 5006)
abbrev e6bn0 : List Nat := [4, 11, 14, 39, 5006, 6220, 6283, 30000, 70000, 70001]
abbrev e6bn1 : List Nat := [0, 4, 8, 11, 14, 55, 56, 57, 75, 76, 77, 120]
abbrev e6bn2 : List Nat := [4, 11, 39, 5006, 6220, 30000, 70000, 70001]
-- coppicer/thicket.Build
def VC6_k2 (K : ((List (Int × (Int × (Int × LL)))) × Int) × Int → Prop) (v5 : Int) (l4 : Int) (l6080 : (List (Int × (Int × (Int × LL))))) : Prop :=
  K ((l6080, l4), v5)
def VC6_k5 (g : TG) (w : LI) (K : ((List (Int × (Int × (Int × LL)))) × Int) × Int → Prop) (number : (List ((Int × (Int × Int)) × Int))) (l6220 : (List (Int × (Int × (Int × LL))))) : Prop :=
  VC6_k2 K (0 : Int) ((mget number ((g.1 + g.2.2.1), ((0 : Int), (w.length : Int)))).getD (0 : Int)) l6220
def VC6_k6 (K : ((List (Int × (Int × (Int × LL)))) × Int) × Int → Prop) (srtv : List (Int × (Int × Int))) (v57 : Int) (l6220 : (List (Int × (Int × (Int × LL))))) (X1 : Int × (List (Int × (Int × (Int × LL)))) → Prop) (l6283 : LL) : Prop :=
  SortVC l6283 (fun (x : LI × LI) (K : Int → Prop) => VC40 x.1 x.2 K) (fun (srtv2 : List LI) => (roomN (l6220.length + [((srtv.getD ((v57).toNat) z3).1, ((srtv.getD ((v57).toNat) z3).2.1, ((srtv.getD ((v57).toNat) z3).2.2, srtv2)))].length) ∧ (InR (v57 + (1 : Int)) ∧ X1 ((v57 + (1 : Int)), (l6220 ++ [((srtv.getD ((v57).toNat) z3).1, ((srtv.getD ((v57).toNat) z3).2.1, ((srtv.getD ((v57).toNat) z3).2.2, srtv2)))])))))
def VC6_k7 (v77 : Int) (l6283 : LL) (X2 : Int × LL → Prop) (row : LI) : Prop :=
  (roomN (l6283.length + [row].length) ∧ (InR (v77 + (1 : Int)) ∧ X2 ((v77 + (1 : Int)), (l6283 ++ [row]))))
def VC6_l3 (ret51v : (List ((Int × (Int × Int)) × (List (Int × LN))))) (srtv : List (Int × (Int × Int))) (number : (List ((Int × (Int × Int)) × Int))) (v57 : Int) (v77 : Int) (l6283 : LL) (X2 : Int × LL → Prop) (v87 : Int) (row : LI) (X3 : Int × LI → Prop) : Prop :=
  (((decide (v87 < (((((mget ret51v (srtv.getD ((v57).toNat) z3)).getD ([] : (List (Int × LN)))).getD (v77).toNat ((0 : Int), ([] : LN))).2).length : Int))) = true → (inIdx v87 ((((mget ret51v (srtv.getD ((v57).toNat) z3)).getD ([] : (List (Int × LN)))).getD (v77).toNat ((0 : Int), ([] : LN))).2).length ∧ (roomN (row.length + [((mget number (((((mget ret51v (srtv.getD ((v57).toNat) z3)).getD ([] : (List (Int × LN)))).getD (v77).toNat ((0 : Int), ([] : LN))).2).getD (v87).toNat z3)).getD (0 : Int))].length) ∧ (InR (v87 + (1 : Int)) ∧ X3 ((v87 + (1 : Int)), (row ++ [((mget number (((((mget ret51v (srtv.getD ((v57).toNat) z3)).getD ([] : (List (Int × LN)))).getD (v77).toNat ((0 : Int), ([] : LN))).2).getD (v87).toNat z3)).getD (0 : Int))])))))) ∧ ((decide (v87 < (((((mget ret51v (srtv.getD ((v57).toNat) z3)).getD ([] : (List (Int × LN)))).getD (v77).toNat ((0 : Int), ([] : LN))).2).length : Int))) = false → VC6_k7 v77 l6283 X2 row))
def VC6_l2 (K : ((List (Int × (Int × (Int × LL)))) × Int) × Int → Prop) (ret51v : (List ((Int × (Int × Int)) × (List (Int × LN))))) (srtv : List (Int × (Int × Int))) (number : (List ((Int × (Int × Int)) × Int))) (v57 : Int) (l6220 : (List (Int × (Int × (Int × LL))))) (X1 : Int × (List (Int × (Int × (Int × LL)))) → Prop) (v77 : Int) (l6283 : LL) (X2 : Int × LL → Prop) : Prop :=
  (((decide (v77 < (((mget ret51v (srtv.getD ((v57).toNat) z3)).getD ([] : (List (Int × LN)))).length : Int))) = true → (inIdx v77 ((mget ret51v (srtv.getD ((v57).toNat) z3)).getD ([] : (List (Int × LN)))).length ∧ Loop (σ := Int × LI) (fun s X => VC6_l3 ret51v srtv number v57 v77 l6283 X2 s.1 s.2 X) ((0 : Int), [(((mget ret51v (srtv.getD ((v57).toNat) z3)).getD ([] : (List (Int × LN)))).getD (v77).toNat ((0 : Int), ([] : LN))).1]))) ∧ ((decide (v77 < (((mget ret51v (srtv.getD ((v57).toNat) z3)).getD ([] : (List (Int × LN)))).length : Int))) = false → VC6_k6 K srtv v57 l6220 X1 l6283))
def VC6_l1 (g : TG) (w : LI) (K : ((List (Int × (Int × (Int × LL)))) × Int) × Int → Prop) (ret51v : (List ((Int × (Int × Int)) × (List (Int × LN))))) (srtv : List (Int × (Int × Int))) (number : (List ((Int × (Int × Int)) × Int))) (v57 : Int) (l6220 : (List (Int × (Int × (Int × LL))))) (X1 : Int × (List (Int × (Int × (Int × LL)))) → Prop) : Prop :=
  (((decide (v57 < (srtv.length : Int))) = true → (inIdx v57 srtv.length ∧ Loop (σ := Int × LL) (fun s X => VC6_l2 K ret51v srtv number v57 l6220 X1 s.1 s.2 X) ((0 : Int), ([] : List LI)))) ∧ ((decide (v57 < (srtv.length : Int))) = false → VC6_k5 g w K number l6220))
def VC6_k4 (g : TG) (w : LI) (K : ((List (Int × (Int × (Int × LL)))) × Int) × Int → Prop) (ret51v : (List ((Int × (Int × Int)) × (List (Int × LN))))) (srtv : List (Int × (Int × Int))) (number : (List ((Int × (Int × Int)) × Int))) : Prop :=
  Loop (σ := Int × (List (Int × (Int × (Int × LL))))) (fun s X => VC6_l1 g w K ret51v srtv number s.1 s.2 X) ((0 : Int), ([] : List (Int × (Int × (Int × LL)))))
def VC6_l4 (g : TG) (w : LI) (K : ((List (Int × (Int × (Int × LL)))) × Int) × Int → Prop) (ret51v : (List ((Int × (Int × Int)) × (List (Int × LN))))) (srtv : List (Int × (Int × Int))) (v42 : Int) (number : (List ((Int × (Int × Int)) × Int))) (X4 : Int × (List ((Int × (Int × Int)) × Int)) → Prop) : Prop :=
  (((decide (v42 < (srtv.length : Int))) = true → (inIdx v42 srtv.length ∧ (InR (v42 + (1 : Int)) ∧ X4 ((v42 + (1 : Int)), (mset number (srtv.getD ((v42).toNat) z3) v42))))) ∧ ((decide (v42 < (srtv.length : Int))) = false → VC6_k4 g w K ret51v srtv number))
def VC6_k3 (g : TG) (w : LI) (K : ((List (Int × (Int × (Int × LL)))) × Int) × Int → Prop) (ret51v : (List ((Int × (Int × Int)) × (List (Int × LN))))) (keys : LN) : Prop :=
  (((decide ((200 : Int) < (keys.length : Int))) = true → VC6_k2 K (1 : Int) (0 : Int) ([] : List (Int × (Int × (Int × LL))))) ∧ ((decide ((200 : Int) < (keys.length : Int))) = false → SortVC keys (fun (x : (Int × (Int × Int)) × (Int × (Int × Int))) (K : Int → Prop) => VC36 x.1 x.2 K) (fun (srtv : List (Int × (Int × Int))) => Loop (σ := Int × (List ((Int × (Int × Int)) × Int))) (fun s X => VC6_l4 g w K ret51v srtv s.1 s.2 X) ((0 : Int), ([] : List ((Int × (Int × Int)) × Int))))))
def VC6_l5 (g : TG) (w : LI) (K : ((List (Int × (Int × (Int × LL)))) × Int) × Int → Prop) (ret51v : (List ((Int × (Int × Int)) × (List (Int × LN))))) (l24 : (List Nat)) (keys : LN) (X5 : (List Nat) × LN → Prop) : Prop :=
  ((∀ (j25 : Nat), j25 < ret51v.length → j25 ∉ l24 → (j25 < ret51v.length ∧ (roomN (keys.length + [(ret51v.getD j25 (z3, ([] : (List (Int × LN))))).1].length) ∧ X5 (l24 ++ [j25], (keys ++ [(ret51v.getD j25 (z3, ([] : (List (Int × LN))))).1]))))) ∧ ((∀ (j25 : Nat), j25 < ret51v.length → j25 ∈ l24) → VC6_k3 g w K ret51v keys))
def VC6_k1 (g : TG) (w : LI) (K : ((List (Int × (Int × (Int × LL)))) × Int) × Int → Prop) (rv : (List ((Int × Int) × Int))) : Prop :=
  (InR (g.1 + g.2.2.1) ∧ VC15 ((mget rv ((0 : Int), (w.length : Int))).getD (0 : Int)) g.2.2.1 (fun (ret46v : Bool) => (((!ret46v) = true → K ((([] : (List (Int × (Int × (Int × LL))))), (0 : Int)), (5 : Int))) ∧ ((!ret46v) = false → VCcr16 g.1 g.2.1 g.2.2.1 g.2.2.2 w rv (g.1 + g.2.2.1) (0 : Int) (w.length : Int) ([] : List ((Int × (Int × Int)) × (List (Int × LN)))) (fun (ret51v : (List ((Int × (Int × Int)) × (List (Int × LN))))) => Loop (σ := (List Nat) × LN) (fun s X => VC6_l5 g w K ret51v s.1 s.2 X) (([] : List Nat), ([] : List (Int × (Int × Int)))))))))
def VC6 (g : TG) (w : LI) (K : ((List (Int × (Int × (Int × LL)))) × Int) × Int → Prop) : Prop :=
  VC12 g w (fun (ret11v : Int) => (((!decide (ret11v = (0 : Int))) = true → K ((([] : (List (Int × (Int × (Int × LL))))), (0 : Int)), ret11v)) ∧ ((!decide (ret11v = (0 : Int))) = false → VC13 g (fun (ret17v : Bool) => (((!ret17v) = true → K ((([] : (List (Int × (Int × (Int × LL))))), (0 : Int)), (3 : Int))) ∧ ((!ret17v) = false → VC14 g w (fun (ret24v : (List ((Int × Int) × Int))) => VC6_k1 g w K ret24v)))))))
set_option maxHeartbeats 4000000 in
theorem link6 (g : TG) (w : LI) (K : ((List (Int × (Int × (Int × LL)))) × Int) × Int → Prop) (h : VC6 g w K) : ACalls Try.prog 6 [toV1 tG g, toV1 (.sl tI) w] (fun res => ∃ y, res = (fun y => [toV1 (.pr (.sl (.pr tI (.pr tI (.pr tI (.sl (.sl tI)))))) tI) y.1, toV1 tI y.2]) y ∧ K y) := by
 refine acalls_of_aw [(.pr (.sl (.pr tI (.pr tI (.pr tI (.sl (.sl tI)))))) tI), tI] [.c 4 28, .t 5] Try.func6 rfl rfl rfl ?_
 unfold VC6 at h
 refine srn 3 ⟨57, [e6b36 w, sp 2 2, e6b22], [e6b8 g, e6b5]⟩ (by kernel_rfl) rfl ?_
 refine aw_seq ?_
 refine sr ?_
 refine rqT 2 ⟨57, [e6b36 w, sp 2 2, e6b22, sA 9 [.pI g.1, .pI g.2.1, .pI g.2.2.1, .p (.sl tR) g.2.2.2], s1 10 (.pS w)], [e6b8 g, e6b5]⟩ (by kernel_rfl) ?_
 refine lcq (d := 11) [.d tG, .d (.sl tI)] (fun ret11v => (⟨57, [e6b36 w, sp 2 2, e6b22, sI 11 ret11v], [e6b8 g, e6b5]⟩ : St)) (by kernel_rfl) Try.call12 (fun _ => by kernel_rfl) (link12 g w _ h) (fun ret11v h => ?_)
 refine rqT 1 ⟨57, [e6b36 w, sp 2 2, e6b22, sI 6 ret11v], [e6b8 g, e6b5]⟩ (by kernel_rfl) ?_
 refine nsr ?_
 refine rqT 2 ⟨57, [e6b36 w, sp 2 2, e6b22, sI 6 ret11v, sB 13 (!decide (ret11v = (0 : Int)))], [e6b8 g, e6b5]⟩ (by kernel_rfl) ?_
 refine nn ?_
 refine aw_cond (b := (!decide (ret11v = (0 : Int)))) (by kernel_rfl) (fun hb => ?_) (fun hb => ?_)
 ·have h := h.1 hb
  refine srn 4 ⟨57, [e6b22, sI 5 ret11v], [e6b5]⟩ (by kernel_rfl) rfl ?_
  refine aw_ret ?_
  refine thenQ_r ?_
  exact retQ_r (ob := Ts 2 True) _ (by kernel_rfl) (tsI 2 trivial) h
 ·have h := h.2 hb
  refine aw_skip ?_
  refine thenQ_n ?_
  refine aw_seq ?_
  refine sr ?_
  refine rqT 1 ⟨57, [e6b36 w, sp 2 2, e6b22, sA 16 [.pI g.1, .pI g.2.1, .pI g.2.2.1, .p (.sl tR) g.2.2.2]], [e6b8 g, e6b5]⟩ (by kernel_rfl) ?_
  refine lcq (d := 17) [.d tG] (fun ret17v => (⟨57, [e6b36 w, sp 2 2, e6b22, sB 17 ret17v], [e6b8 g, e6b5]⟩ : St)) (by kernel_rfl) Try.call13 (fun _ => by kernel_rfl) (link13 g _ h) (fun ret17v h => ?_)
  refine rqT 1 ⟨57, [e6b36 w, sp 2 2, e6b22, sB 18 (!ret17v)], [e6b8 g, e6b5]⟩ (by kernel_rfl) ?_
  refine nn ?_
  refine aw_cond (b := (!ret17v)) (by kernel_rfl) (fun hb => ?_) (fun hb => ?_)
  ·have h := h.1 hb
   refine srn 3 ⟨57, [e6b22, sI 5 (3 : Int)], [e6b5]⟩ (by kernel_rfl) rfl ?_
   refine aw_ret ?_
   refine thenQ_r ?_
   exact retQ_r (ob := Ts 2 True) _ (by kernel_rfl) (tsI 2 trivial) h
  ·have h := h.2 hb
   refine aw_skip ?_
   refine thenQ_n ?_
   refine aw_seq ?_
   refine withJoin (σ := (List ((Int × Int) × Int))) (fun s => (⟨57, [e6b36 w, sp 2 2, e6b22, sp 7 27], [e6b8 g, e6b5, e6b11, hB 27 [.pI g.1, .pI g.2.1, .pI g.2.2.1, .p (.sl tR) g.2.2.2, .pS w, .p (.mp (.pr tI tI) (.int .u32)) s, .own 25]]⟩ : St)) (fun s => VC6_k1 g w K s) (fun rv h => ?_) (fun rest7 => ?_)
   ·have h : VC6_k1 g w K rv := h
    unfold VC6_k1 at h
    refine thenQ_n ?_
    refine sr ?_
    obtain ⟨o1, h⟩ := h
    refine rq 11 (ob := (Ts 4 (InR (g.1 + g.2.2.1) ∧ Ts 6 True))) (st' := (⟨57, [sp 2 2, e6b22, sp 7 27, sp 8 8], [e6b8 g, e6b5, e6b26 g w, e6b11, e6b18 g w rv]⟩ : St)) (by kernel_rfl) (tsI 4 ⟨o1, tsI 6 trivial⟩) ?_
    refine nn ?_
    refine aw_seq ?_
    refine aw_seq ?_
    refine awd_begin [] (by kernel_rfl) ?_
    refine drq (by kernel_rfl) [0, 1, 2, 3, 4, 5, 6, 7, 8] (ob := (Ts 9 True)) (done' := [8, 7, 6, 5, 4, 3, 2, 1, 0]) (st' := (⟨57, [e6b22, sp 7 27, sp 8 8, s1 43 (.pW ((mget rv ((0 : Int), (w.length : Int))).getD (0 : Int))), sI 45 g.2.2.1], [e6b5, e6b26 g w, e6b11, e6b18 g w rv]⟩ : St)) (by kernel_rfl) (tsI 9 trivial) ?_
    refine awd_one (i := 9) (by kernel_rfl) ?_
    refine dcq (d := 46) [.d (.int .u32), .d tI] (fun ret46v => (⟨57, [e6b22, sp 7 27, sp 8 8, sB 46 ret46v], [e6b5, e6b26 g w, e6b11, e6b18 g w rv]⟩ : St)) rfl (by kernel_rfl) Try.call15 (fun _ => by kernel_rfl) (link15 ((mget rv ((0 : Int), (w.length : Int))).getD (0 : Int)) g.2.2.1 _ h) (fun ret46v h => ?_)
    refine drq (by kernel_rfl) [10] (ob := (Ts 1 True)) (done' := [10, 9, 8, 7, 6, 5, 4, 3, 2, 1, 0]) (st' := (⟨57, [e6b22, sp 7 27, sp 8 8, sB 47 (!ret46v)], [e6b5, e6b26 g w, e6b11, e6b18 g w rv]⟩ : St)) (by kernel_rfl) (tsI 1 trivial) ?_
    refine awd_done (by kernel_rfl) ?_
    refine thenQ_n ?_
    refine aw_cond (b := (!ret46v)) (by kernel_rfl) (fun hb => ?_) (fun hb => ?_)
    ·have h := h.1 hb
     refine srn 3 ⟨57, [e6b22, sI 5 (5 : Int)], [e6b5]⟩ (by kernel_rfl) rfl ?_
     refine aw_ret ?_
     refine thenQ_r ?_
     exact retQ_r (ob := Ts 2 True) _ (by kernel_rfl) (tsI 2 trivial) h
    ·have h := h.2 hb
     refine aw_skip ?_
     refine thenQ_n ?_
     refine sr ?_
     refine rqT 2 ⟨57, [e6b22, sp 7 27, sp 8 8, sp 49 27, e6b40 g w], [e6b5, e6b26 g w, e6b11, e6b18 g w rv]⟩ (by kernel_rfl) ?_
     refine awl_conv [.ren 27 70000, .ren 25 70001] (st' := (⟨57, [e6b22, sp 7 70000, sp 8 8, sp 49 70000, e6b40 g w], [e6b5, e6b26 g w, e6b37, e6b0 g w rv]⟩ : St)) (by kernel_rfl) ?_
     refine awl_lcall (σ := (List ((Int × (Int × Int)) × (List (Int × LN))))) [70000, 70001] [70000] [.c (.ptr 70000 0), .agg [.pI (g.1 + g.2.2.1), .pI (0 : Int), .pI (w.length : Int)]] [] (fun ret51v => .tup []) (fun ret51v => [e6b0 g w rv, e6b1 ret51v]) (_) [e6b0 g w rv, e6b37] (fun ret51v => (⟨57, [(51, [], .tup []), e6b22, sp 7 70000, sp 8 8, sp 49 70000, e6b40 g w], [e6b0 g w rv, e6b1 ret51v, e6b5, e6b26 g w]⟩ : St)) rfl rfl (by kernel_rfl) rfl (by kernel_rfl) Try.call16 (by kernel_rfl) (by kernel_rfl) (by kernel_rfl) (fun _ _ => rfl) (fun _ => by kernel_rfl) (linkcr16 g.1 g.2.1 g.2.2.1 g.2.2.2 w rv (g.1 + g.2.2.1) (0 : Int) (w.length : Int) ([] : List ((Int × (Int × Int)) × (List (Int × LN)))) _ h) (fun ret51v h => ?_)
     refine lpr (st' := (⟨57, [e6b22, sp 7 70000, sp 8 8], [e6b5, e6b26 g w, e6b0 g w rv, e6b1 ret51v]⟩ : St)) (by kernel_rfl) ?_
     refine nsr ?_
     refine rqT 2 ⟨57, [e6b22, sp 52 70000, sA 53 [.pI (g.1 + g.2.2.1), .pI (0 : Int), .pI (w.length : Int)]], [e6b5, e6b0 g w rv, e6b1 ret51v]⟩ (by kernel_rfl) ?_
     refine awl_conv [.ren 4 30000] (st' := (⟨57, [sp 4 30000, sp 52 70000, sA 53 [.pI (g.1 + g.2.2.1), .pI (0 : Int), .pI (w.length : Int)]], [e6b7, e6b0 g w rv, e6b1 ret51v]⟩ : St)) (by kernel_rfl) ?_
     refine awl_inlr [.c 4 28, .t 5] [30000, 70000, 70001] [.c (.ptr 70000 0), .agg [.pI (g.1 + g.2.2.1), .pI (0 : Int), .pI (w.length : Int)]] [] rfl rfl (by kernel_rfl) rfl (by kernel_rfl) Try.call17 (by kernel_rfl) (by kernel_rfl) Try.func17 rfl rfl (by kernel_rfl) ?_
     refine aw_conv [] (st' := (⟨116, [e6b20, sA 1 [.pI (g.1 + g.2.2.1), .pI (0 : Int), .pI (w.length : Int)], e6b16, sp 168 70000, sA 169 [.pI (g.1 + g.2.2.1), .pI (0 : Int), .pI (w.length : Int)]], [e6b7, e6b0 g w rv, e6b1 ret51v]⟩ : St)) (by kernel_rfl) ?_
     refine withJoinR (σ := Int × Int × (List (Int × (Int × (Int × LL))))) (fun s => (⟨116, [e6b22, sI 5 s.1, e6b16], [hB 4 [.own 6080, .pI s.2.1], hA 6080 36 (.pr tI (.pr tI (.pr tI (.sl (.sl tI))))) s.2.2, e6b7]⟩ : St)) (fun s => VC6_k2 K s.1 s.2.1 s.2.2) (fun s h => ?_) (fun rest1 => ?_)
     ·obtain ⟨v5, l4, l6080⟩ := s
      have h : VC6_k2 K v5 l4 l6080 := h
      unfold VC6_k2 at h
      refine inlR_n (ob := (True ∧ True ∧ True)) (.tup [.agg [.own 6080, .pI l4], .c (.pI v5)]) (by kernel_rfl) ⟨trivial, trivial, trivial⟩ rfl ?_
      refine lpr (st' := (⟨57, [sp 4 30000, (54, [], .tup [.agg [.own 6080, .pI l4], .c (.pI v5)])], [hA 6080 36 (.pr tI (.pr tI (.pr tI (.sl (.sl tI))))) l6080, e6b7]⟩ : St)) (by kernel_rfl) ?_
      refine rqT 4 ⟨57, [sp 4 30000, sI 5 v5], [hA 6080 36 (.pr tI (.pr tI (.pr tI (.sl (.sl tI))))) l6080, hB 30000 [.own 6080, .pI l4]]⟩ (by kernel_rfl) ?_
      refine nn ?_
      refine aw_conv [.freeze 6080] (st' := (⟨57, [sp 4 30000, sI 5 v5], [hB 30000 [.p (.sl (.pr tI (.pr tI (.pr tI (.sl (.sl tI)))))) l6080, .pI l4]]⟩ : St)) (by kernel_rfl) ?_
      refine aw_ret ?_
      exact retQ_r (ob := Ts 2 True) _ (by kernel_rfl) (tsI 2 trivial) h
     ·refine sr ?_
      refine rqT 3 ⟨116, [e6b20, sp 3 3, e6b22, e6b16], [e6b10 g w, e6b5, e6b7, e6b0 g w rv, e6b1 ret51v]⟩ (by kernel_rfl) ?_
      refine nsr ?_
      refine rqT 1 ⟨116, [e6b20, sp 3 3, e6b22, s1 6 (.nils), e6b16], [e6b10 g w, e6b5, e6b7, e6b0 g w rv, e6b1 ret51v]⟩ (by kernel_rfl) ?_
      refine nn ?_
      refine aw_seq ?_
      refine sr ?_
      refine rqT 4 ⟨116, [e6b20, sp 3 3, e6b22, s1 6 (.nils), s1 23 (.own 70001), e6b16], [e6b10 g w, e6b5, e6b7, e6b0 g w rv, e6b1 ret51v]⟩ (by kernel_rfl) ?_
      refine awl_range (tt := 52) (kk := 58) (vv := 83) (t := 23) (d := 24) (q := 70001) (r := 24) (k := t3) (v := (.sl (.pr tI (.sl t3)))) (l := ret51v) rfl rfl rfl (by kernel_rfl) (by kernel_rfl) (by kernel_rfl) (by kernel_rfl) ?_
      refine lpr (st' := (⟨116, [e6b20, sp 3 3, e6b22, s1 6 (.nils), sp 24 24, e6b16], [e6b10 g w, e6b5, (24, [], .mit (.own 70001) ret51v.length ([] : List Nat)), e6b7, e6b0 g w rv, e6b1 ret51v]⟩ : St)) (by kernel_rfl) ?_
      refine nn ?_
      refine withJoin (σ := LN) (fun s => (⟨116, [e6b20, sp 3 3, e6b22, e6b29, e6b16], [e6b10 g w, e6b5, hA 5006 58 t3 s, e6b7, e6b0 g w rv, e6b1 ret51v]⟩ : St)) (fun s => VC6_k3 g w K ret51v s) (fun keys h => ?_) (fun rest6 => ?_)
      ·have h : VC6_k3 g w K ret51v keys := h
       unfold VC6_k3 at h
       refine thenQ_n ?_
       refine aw_seq ?_
       refine srn 3 ⟨116, [e6b20, sp 3 3, e6b22, e6b29, sB 35 (decide ((200 : Int) < (keys.length : Int))), e6b16], [e6b10 g w, e6b5, e6b42 keys, e6b7, e6b0 g w rv, e6b1 ret51v]⟩ (by kernel_rfl) rfl ?_
       refine aw_cond (b := (decide ((200 : Int) < (keys.length : Int)))) (by kernel_rfl) (fun hb => ?_) (fun hb => ?_)
       ·have h := h.1 hb
        refine srn 3 ⟨116, [e6b22, sI 5 (1 : Int), e6b16], [e6b5, e6b7]⟩ (by kernel_rfl) rfl ?_
        refine aw_conv [.nilOwnB 4 0 6080 36 (.pr tI (.pr tI (.pr tI (.sl (.sl tI))))), .prune [4, 5, 120] [4, 6080, 30000]] (st' := (⟨116, [e6b22, sI 5 (1 : Int), e6b16], [hB 4 [.own 6080, .pI (0 : Int)], hA 6080 36 (.pr tI (.pr tI (.pr tI (.sl (.sl tI))))) ([] : List (Int × (Int × (Int × LL)))), e6b7]⟩ : St)) (by kernel_rfl) ?_
        refine aw_ret ?_
        refine thenQ_r ?_
        exact rest1 ((1 : Int), (0 : Int), ([] : List (Int × (Int × (Int × LL))))) h
       ·have h := h.2 hb
        refine aw_skip ?_
        refine thenQ_n ?_
        refine sr ?_
        refine rqT 1 ⟨116, [e6b20, sp 3 3, e6b22, e6b29, s1 37 (.own 5006), e6b16], [e6b10 g w, e6b5, e6b42 keys, e6b7, e6b0 g w rv, e6b1 ret51v]⟩ (by kernel_rfl) ?_
        refine awl_lcall (σ := List (Int × (Int × Int))) [5006] [5006] [.c (.own 5006), .c (.fn 36 [])] [] (fun _ => .tup []) (fun srtv => [(5006, [], .arr 58 t3 srtv)]) (fun (srtv : List (Int × (Int × Int))) => Loop (σ := Int × (List ((Int × (Int × Int)) × Int))) (fun s X => VC6_l4 g w K ret51v srtv s.1 s.2 X) ((0 : Int), ([] : List ((Int × (Int × Int)) × Int)))) [(5006, [], .arr 58 t3 keys)] (fun srtv => (⟨116, [(38, [], .tup []), e6b20, sp 3 3, e6b22, e6b29, s1 37 (.own 5006), e6b16], [e6b17 srtv, e6b10 g w, e6b5, e6b7, e6b0 g w rv, e6b1 ret51v]⟩ : St)) rfl rfl (by kernel_rfl) rfl (by kernel_rfl) Try.call35 (by kernel_rfl) (by kernel_rfl) (by kernel_rfl) (fun _ _ => rfl) (fun _ => by kernel_rfl) (lcalls_sortKF Try.sort35 t3 rfl (by decide) Try.sort35a Try.sort35z 58 5006 _ _ (⟨Try.call36, fun x K h => link36 x.1 x.2 K h⟩) h) (fun srtv h => ?_)
        refine lpr (st' := (⟨116, [e6b20, sp 3 3, e6b22, e6b29, e6b16], [e6b10 g w, e6b5, e6b17 srtv, e6b7, e6b0 g w rv, e6b1 ret51v]⟩ : St)) (by kernel_rfl) ?_
        refine nsr ?_
        refine rqT 2 ⟨116, [e6b20, sp 3 3, e6b22, e6b29, e6b21, e6b16], [e6b10 g w, e6b5, e6b43, e6b17 srtv, e6b7, e6b0 g w rv, e6b1 ret51v]⟩ (by kernel_rfl) ?_
        refine nn ?_
        refine aw_seq ?_
        refine srn 3 ⟨116, [e6b20, sp 3 3, e6b22, e6b29, e6b21, e6b45, sI 41 (srtv.length : Int), sI 42 (0 : Int), e6b16], [e6b10 g w, e6b5, e6b43, e6b17 srtv, e6b7, e6b0 g w rv, e6b1 ret51v]⟩ (by kernel_rfl) rfl ?_
        refine withJoin (σ := (List ((Int × (Int × Int)) × Int))) (fun s => (⟨116, [e6b20, sp 3 3, e6b22, e6b29, e6b21, e6b16], [e6b10 g w, e6b5, (39, [], .dict t3 tI s), e6b17 srtv, e6b7, e6b0 g w rv, e6b1 ret51v]⟩ : St)) (fun s => VC6_k4 g w K ret51v srtv s) (fun number h => ?_) (fun rest5 => ?_)
        ·have h : VC6_k4 g w K ret51v srtv number := h
         unfold VC6_k4 at h
         refine thenQ_n ?_
         refine srn 6 ⟨116, [e6b20, e6b22, e6b29, e6b21, e6b32, e6b16], [e6b5, hB 11 [.nils, .pI ((mget number ((g.1 + g.2.2.1), ((0 : Int), (w.length : Int)))).getD (0 : Int))], e6b12 number, e6b17 srtv, e6b7, e6b0 g w rv, e6b1 ret51v]⟩ (by kernel_rfl) rfl ?_
         refine aw_seq ?_
         refine srn 3 ⟨116, [e6b20, e6b22, e6b21, e6b32, e6b23, e6b15 srtv, sI 57 (0 : Int), e6b16], [e6b5, hB 11 [.nils, .pI ((mget number ((g.1 + g.2.2.1), ((0 : Int), (w.length : Int)))).getD (0 : Int))], e6b12 number, e6b17 srtv, e6b7, e6b0 g w rv, e6b1 ret51v]⟩ (by kernel_rfl) rfl ?_
         refine withJoin (σ := (List (Int × (Int × (Int × LL))))) (fun s => (⟨116, [e6b22, e6b32, e6b16], [e6b5, e6b2 number g w, hA 6220 36 (.pr tI (.pr tI (.pr tI (.sl (.sl tI))))) s, e6b7]⟩ : St)) (fun s => VC6_k5 g w K number s) (fun l6220 h => ?_) (fun rest2 => ?_)
         ·have h : VC6_k5 g w K number l6220 := h
          unfold VC6_k5 at h
          refine thenQ_n ?_
          refine srn 3 ⟨116, [e6b22, sI 5 (0 : Int), e6b16], [hB 4 [.own 6220, .pI ((mget number ((g.1 + g.2.2.1), ((0 : Int), (w.length : Int)))).getD (0 : Int))], e6b3 l6220, e6b7]⟩ (by kernel_rfl) rfl ?_
          refine aw_conv [.ren 6220 26220, .ren 26220 6080] (st' := (⟨116, [e6b22, sI 5 (0 : Int), e6b16], [hB 4 [.own 6080, .pI ((mget number ((g.1 + g.2.2.1), ((0 : Int), (w.length : Int)))).getD (0 : Int))], hA 6080 36 (.pr tI (.pr tI (.pr tI (.sl (.sl tI))))) l6220, e6b7]⟩ : St)) (by kernel_rfl) ?_
          refine aw_ret ?_
          exact rest1 ((0 : Int), ((mget number ((g.1 + g.2.2.1), ((0 : Int), (w.length : Int)))).getD (0 : Int)), l6220) h
         ·refine aw_block ?_
          refine aw_conv [.nilOwnB 11 0 6220 36 (.pr tI (.pr tI (.pr tI (.sl (.sl tI))))), .prune [0, 4, 8, 11, 55, 56, 57, 120] e6bn2] (st' := (⟨116, [e6b20, e6b22, e6b21, e6b32, e6b23, e6b15 srtv, sI 57 (0 : Int), e6b16], [e6b5, e6b2 number g w, e6b12 number, e6b17 srtv, hA 6220 36 (.pr tI (.pr tI (.pr tI (.sl (.sl tI))))) ([] : List (Int × (Int × (Int × LL)))), e6b7, e6b0 g w rv, e6b1 ret51v]⟩ : St)) (by kernel_rfl) ?_
          refine aw_loop (σ := Int × (List (Int × (Int × (Int × LL))))) (fun s => (⟨116, [e6b20, e6b22, e6b21, e6b32, e6b23, e6b15 srtv, sI 57 s.1, e6b16], [e6b5, e6b2 number g w, e6b12 number, e6b17 srtv, hA 6220 36 (.pr tI (.pr tI (.pr tI (.sl (.sl tI))))) s.2, e6b7, e6b0 g w rv, e6b1 ret51v]⟩ : St)) (fun s X => VC6_l1 g w K ret51v srtv number s.1 s.2 X) (s0 := ((0 : Int), ([] : List (Int × (Int × (Int × LL)))))) (fun s X1 h => ?_) h
          obtain ⟨v57, l6220⟩ := s
          have h : VC6_l1 g w K ret51v srtv number v57 l6220 X1 := h
          unfold VC6_l1 at h
          refine srn 1 ⟨116, [e6b20, e6b22, e6b21, e6b32, e6b23, e6b15 srtv, sI 57 v57, sB 58 (decide (v57 < (srtv.length : Int))), e6b16], [e6b5, e6b2 number g w, e6b12 number, e6b17 srtv, e6b3 l6220, e6b7, e6b0 g w rv, e6b1 ret51v]⟩ (by kernel_rfl) rfl ?_
          refine aw_seq ?_
          refine aw_cond (b := (decide (v57 < (srtv.length : Int)))) (by kernel_rfl) (fun hb => ?_) (fun hb => ?_)
          ·have h := h.1 hb
           refine aw_skip ?_
           refine thenQ_n ?_
           refine aw_seq ?_
           refine aw_block ?_
           refine sr ?_
           obtain ⟨o1, h⟩ := h
           refine rq 4 (ob := (inIdx v57 srtv.length ∧ Ts 3 True)) (st' := (⟨116, [e6b20, e6b22, e6b21, e6b32, sp 13 13, e6b23, e6b15 srtv, sI 57 v57, e6b16], [e6b5, e6b2 number g w, e6b35 srtv v57, e6b12 number, e6b17 srtv, e6b3 l6220, e6b7, e6b0 g w rv, e6b1 ret51v]⟩ : St)) (by kernel_rfl) (⟨o1, tsI 3 trivial⟩) ?_
           refine nsr ?_
           refine rqT 11 ⟨116, [e6b20, e6b22, e6b21, e6b32, sp 13 13, e6b38, e6b23, e6b15 srtv, sI 57 v57, e6b16], [e6b5, e6b2 number g w, e6b35 srtv v57, e6b34 srtv v57, e6b12 number, e6b17 srtv, e6b3 l6220, e6b7, e6b0 g w rv, e6b1 ret51v]⟩ (by kernel_rfl) ?_
           refine nn ?_
           refine aw_seq ?_
           refine aw_seq ?_
           refine awd_begin [] (by kernel_rfl) ?_
           refine drq (by kernel_rfl) [0, 1, 2, 3, 4, 5, 6, 7] (ob := (Ts 8 True)) (done' := [7, 6, 5, 4, 3, 2, 1, 0]) (st' := (⟨116, [e6b20, e6b22, e6b21, e6b32, e6b38, e6b23, e6b15 srtv, sI 57 v57, e6b6 ret51v srtv v57, e6b9 ret51v srtv v57, sI 77 (0 : Int), e6b16], [e6b5, e6b2 number g w, e6b34 srtv v57, e6b12 number, e6b17 srtv, e6b3 l6220, e6b7, e6b0 g w rv, e6b1 ret51v]⟩ : St)) (by kernel_rfl) (tsI 8 trivial) ?_
           refine awd_done (by kernel_rfl) ?_
           refine thenQ_n ?_
           refine withJoin (σ := LL) (fun s => (⟨116, [e6b20, e6b22, e6b21, e6b32, e6b38, e6b23, e6b15 srtv, sI 57 v57, e6b16], [e6b5, e6b2 number g w, e6b4 srtv v57, e6b12 number, e6b17 srtv, e6b3 l6220, hA 6283 25 (.sl tI) s, e6b7, e6b0 g w rv, e6b1 ret51v]⟩ : St)) (fun s => VC6_k6 K srtv v57 l6220 X1 s) (fun l6283 h => ?_) (fun rest3 => ?_)
           ·have h : VC6_k6 K srtv v57 l6220 X1 l6283 := h
            unfold VC6_k6 at h
            refine thenQ_n ?_
            refine sr ?_
            refine rqT 2 ⟨116, [e6b20, e6b22, e6b21, e6b32, e6b38, e6b23, e6b15 srtv, sI 57 v57, s1 106 (.own 6283), e6b16], [e6b5, e6b2 number g w, e6b4 srtv v57, e6b12 number, e6b17 srtv, e6b3 l6220, e6b24 l6283, e6b7, e6b0 g w rv, e6b1 ret51v]⟩ (by kernel_rfl) ?_
            refine awl_lcall (σ := List LI) [6283] [6283] [.c (.own 6283), .c (.fn 40 [])] [] (fun _ => .tup []) (fun srtv2 => [(6283, [], .arr 25 (.sl tI) srtv2)]) (fun (srtv2 : List LI) => (roomN (l6220.length + [((srtv.getD ((v57).toNat) z3).1, ((srtv.getD ((v57).toNat) z3).2.1, ((srtv.getD ((v57).toNat) z3).2.2, srtv2)))].length) ∧ (InR (v57 + (1 : Int)) ∧ X1 ((v57 + (1 : Int)), (l6220 ++ [((srtv.getD ((v57).toNat) z3).1, ((srtv.getD ((v57).toNat) z3).2.1, ((srtv.getD ((v57).toNat) z3).2.2, srtv2)))]))))) [(6283, [], .arr 25 (.sl tI) l6283)] (fun srtv2 => (⟨116, [(107, [], .tup []), e6b20, e6b22, e6b21, e6b32, e6b38, e6b23, e6b15 srtv, sI 57 v57, s1 106 (.own 6283), e6b16], [hA 6283 25 (.sl tI) srtv2, e6b5, e6b2 number g w, e6b4 srtv v57, e6b12 number, e6b17 srtv, e6b3 l6220, e6b7, e6b0 g w rv, e6b1 ret51v]⟩ : St)) rfl rfl (by kernel_rfl) rfl (by kernel_rfl) Try.call39 (by kernel_rfl) (by kernel_rfl) (by kernel_rfl) (fun _ _ => rfl) (fun _ => by kernel_rfl) (lcalls_sortF Try.sort39 (.sl tI) rfl 25 6283 _ _ (⟨Try.call40, fun x K h => link40 x.1 x.2 K h⟩) h) (fun srtv2 h => ?_)
            refine lpr (st' := (⟨116, [e6b20, e6b22, e6b21, e6b32, e6b38, e6b23, e6b15 srtv, sI 57 v57, e6b16], [e6b5, e6b2 number g w, e6b4 srtv v57, e6b12 number, e6b17 srtv, e6b3 l6220, hA 6283 25 (.sl tI) srtv2, e6b7, e6b0 g w rv, e6b1 ret51v]⟩ : St)) (by kernel_rfl) ?_
            refine nn ?_
            refine aw_region ?_
            refine rqT 3 ⟨116, [e6b20, e6b22, e6b21, e6b32, e6b23, e6b15 srtv, sI 57 v57, s1 109 (.own 6220), sA 110 [.pI ((srtv.getD ((v57).toNat) z3).1), .pI ((srtv.getD ((v57).toNat) z3).2.1), .pI ((srtv.getD ((v57).toNat) z3).2.2), .own 6283], e6b16], [e6b5, e6b2 number g w, e6b12 number, e6b17 srtv, e6b3 l6220, hA 6283 25 (.sl tI) srtv2, e6b7, e6b0 g w rv, e6b1 ret51v]⟩ (by kernel_rfl) ?_
            refine awl_conv [.freeze 6283] (st' := (⟨116, [e6b20, e6b22, e6b21, e6b32, e6b23, e6b15 srtv, sI 57 v57, s1 109 (.own 6220), sA 110 [.pI ((srtv.getD ((v57).toNat) z3).1), .pI ((srtv.getD ((v57).toNat) z3).2.1), .pI ((srtv.getD ((v57).toNat) z3).2.2), .p (.sl (.sl tI)) srtv2], e6b16], [e6b5, e6b2 number g w, e6b12 number, e6b17 srtv, e6b3 l6220, e6b7, e6b0 g w rv, e6b1 ret51v]⟩ : St)) (by kernel_rfl) ?_
            obtain ⟨o1, h⟩ := h
            refine rq 4 (ob := (Ts 1 (roomN (l6220.length + [((srtv.getD ((v57).toNat) z3).1, ((srtv.getD ((v57).toNat) z3).2.1, ((srtv.getD ((v57).toNat) z3).2.2, srtv2)))].length) ∧ Ts 2 True))) (st' := (⟨116, [e6b20, e6b22, e6b21, e6b32, e6b23, e6b15 srtv, sI 57 v57, e6b16], [e6b5, hB 11 [.own 112, .pI ((mget number ((g.1 + g.2.2.1), ((0 : Int), (w.length : Int)))).getD (0 : Int))], e6b12 number, e6b28 l6220 srtv v57 srtv2, e6b17 srtv, e6b7, e6b0 g w rv, e6b1 ret51v]⟩ : St)) (by kernel_rfl) (tsI 1 ⟨o1, tsI 2 trivial⟩) ?_
            refine awl_nil ?_
            refine blockQ_n ?_
            refine thenQ_n ?_
            refine aw_region ?_
            obtain ⟨o1, h⟩ := h
            refine rq 2 (ob := (InR (v57 + (1 : Int)) ∧ Ts 1 True)) (st' := (⟨116, [e6b20, e6b22, e6b21, e6b32, e6b23, e6b15 srtv, sI 57 (v57 + (1 : Int)), e6b16], [e6b5, hB 11 [.own 112, .pI ((mget number ((g.1 + g.2.2.1), ((0 : Int), (w.length : Int)))).getD (0 : Int))], e6b12 number, e6b28 l6220 srtv v57 srtv2, e6b17 srtv, e6b7, e6b0 g w rv, e6b1 ret51v]⟩ : St)) (by kernel_rfl) (⟨o1, tsI 1 trivial⟩) ?_
            refine awl_conv [.ren 112 20112, .ren 20112 6220, .prune [0, 4, 8, 11, 55, 56, 57, 120] e6bn2] (st' := (⟨116, [e6b20, e6b22, e6b21, e6b32, e6b23, e6b15 srtv, sI 57 (v57 + (1 : Int)), e6b16], [e6b5, e6b2 number g w, e6b12 number, e6b17 srtv, hA 6220 36 (.pr tI (.pr tI (.pr tI (.sl (.sl tI))))) (l6220 ++ [((srtv.getD ((v57).toNat) z3).1, ((srtv.getD ((v57).toNat) z3).2.1, ((srtv.getD ((v57).toNat) z3).2.2, srtv2)))]), e6b7, e6b0 g w rv, e6b1 ret51v]⟩ : St)) (by kernel_rfl) ?_
            refine awl_nil ?_
            exact thenQ_n ⟨((v57 + (1 : Int)), (l6220 ++ [((srtv.getD ((v57).toNat) z3).1, ((srtv.getD ((v57).toNat) z3).2.1, ((srtv.getD ((v57).toNat) z3).2.2, srtv2)))])), rfl, h⟩
           ·refine aw_block ?_
            refine aw_conv [.nilOwnB 14 3 6283 25 (.sl tI), .prune e6bn1 e6bn0] (st' := (⟨116, [e6b20, e6b22, e6b21, e6b32, e6b38, e6b23, e6b15 srtv, sI 57 v57, e6b6 ret51v srtv v57, e6b9 ret51v srtv v57, sI 77 (0 : Int), e6b16], [e6b5, e6b2 number g w, e6b4 srtv v57, e6b12 number, e6b17 srtv, e6b3 l6220, hA 6283 25 (.sl tI) ([] : List LI), e6b7, e6b0 g w rv, e6b1 ret51v]⟩ : St)) (by kernel_rfl) ?_
            refine aw_loop (σ := Int × LL) (fun s => (⟨116, [e6b20, e6b22, e6b21, e6b32, e6b38, e6b23, e6b15 srtv, sI 57 v57, e6b6 ret51v srtv v57, e6b9 ret51v srtv v57, sI 77 s.1, e6b16], [e6b5, e6b2 number g w, e6b4 srtv v57, e6b12 number, e6b17 srtv, e6b3 l6220, hA 6283 25 (.sl tI) s.2, e6b7, e6b0 g w rv, e6b1 ret51v]⟩ : St)) (fun s X => VC6_l2 K ret51v srtv number v57 l6220 X1 s.1 s.2 X) (s0 := ((0 : Int), ([] : List LI))) (fun s X2 h => ?_) h
            obtain ⟨v77, l6283⟩ := s
            have h : VC6_l2 K ret51v srtv number v57 l6220 X1 v77 l6283 X2 := h
            unfold VC6_l2 at h
            refine srn 1 ⟨116, [e6b20, e6b22, e6b21, e6b32, e6b38, e6b23, e6b15 srtv, sI 57 v57, e6b6 ret51v srtv v57, e6b9 ret51v srtv v57, sI 77 v77, sB 78 (decide (v77 < (((mget ret51v (srtv.getD ((v57).toNat) z3)).getD ([] : (List (Int × LN)))).length : Int))), e6b16], [e6b5, e6b2 number g w, e6b4 srtv v57, e6b12 number, e6b17 srtv, e6b3 l6220, e6b24 l6283, e6b7, e6b0 g w rv, e6b1 ret51v]⟩ (by kernel_rfl) rfl ?_
            refine aw_seq ?_
            refine aw_cond (b := (decide (v77 < (((mget ret51v (srtv.getD ((v57).toNat) z3)).getD ([] : (List (Int × LN)))).length : Int)))) (by kernel_rfl) (fun hb => ?_) (fun hb => ?_)
            ·have h := h.1 hb
             refine aw_skip ?_
             refine thenQ_n ?_
             refine aw_seq ?_
             refine aw_block ?_
             refine sr ?_
             obtain ⟨o1, h⟩ := h
             refine rq 4 (ob := (inIdx v77 ((mget ret51v (srtv.getD ((v57).toNat) z3)).getD ([] : (List (Int × LN)))).length ∧ Ts 3 True)) (st' := (⟨116, [e6b20, e6b22, e6b21, e6b32, e6b38, sp 16 16, e6b23, e6b15 srtv, sI 57 v57, e6b6 ret51v srtv v57, e6b9 ret51v srtv v57, sI 77 v77, e6b16], [e6b5, e6b2 number g w, e6b4 srtv v57, e6b25 ret51v srtv v57 v77, e6b12 number, e6b17 srtv, e6b3 l6220, e6b24 l6283, e6b7, e6b0 g w rv, e6b1 ret51v]⟩ : St)) (by kernel_rfl) (⟨o1, tsI 3 trivial⟩) ?_
             refine nsr ?_
             refine rqT 4 ⟨116, [e6b20, e6b22, e6b21, e6b32, e6b38, sp 16 16, e6b44, e6b23, e6b15 srtv, sI 57 v57, e6b6 ret51v srtv v57, e6b9 ret51v srtv v57, sI 77 v77, e6b16], [e6b5, e6b2 number g w, e6b4 srtv v57, e6b25 ret51v srtv v57 v77, e6b12 number, hA 83 3 tI [(((mget ret51v (srtv.getD ((v57).toNat) z3)).getD ([] : (List (Int × LN)))).getD (v77).toNat ((0 : Int), ([] : LN))).1], e6b17 srtv, e6b3 l6220, e6b24 l6283, e6b7, e6b0 g w rv, e6b1 ret51v]⟩ (by kernel_rfl) ?_
             refine nn ?_
             refine aw_seq ?_
             refine srn 4 ⟨116, [e6b20, e6b22, e6b21, e6b32, e6b38, e6b44, e6b23, e6b15 srtv, sI 57 v57, e6b6 ret51v srtv v57, e6b9 ret51v srtv v57, sI 77 v77, e6b14 ret51v srtv v57 v77, e6b13 ret51v srtv v57 v77, sI 87 (0 : Int), e6b16], [e6b5, e6b2 number g w, e6b4 srtv v57, e6b12 number, hA 83 3 tI [(((mget ret51v (srtv.getD ((v57).toNat) z3)).getD ([] : (List (Int × LN)))).getD (v77).toNat ((0 : Int), ([] : LN))).1], e6b17 srtv, e6b3 l6220, e6b24 l6283, e6b7, e6b0 g w rv, e6b1 ret51v]⟩ (by kernel_rfl) rfl ?_
             refine withJoin (σ := LI) (fun s => (⟨116, [e6b20, e6b22, e6b21, e6b32, e6b38, e6b44, e6b23, e6b15 srtv, sI 57 v57, e6b6 ret51v srtv v57, e6b9 ret51v srtv v57, sI 77 v77, e6b16], [e6b5, e6b2 number g w, e6b4 srtv v57, e6b12 number, hA 83 3 tI s, e6b17 srtv, e6b3 l6220, e6b24 l6283, e6b7, e6b0 g w rv, e6b1 ret51v]⟩ : St)) (fun s => VC6_k7 v77 l6283 X2 s) (fun row h => ?_) (fun rest4 => ?_)
             ·have h : VC6_k7 v77 l6283 X2 row := h
              unfold VC6_k7 at h
              refine thenQ_n ?_
              refine aw_region ?_
              refine rqT 3 ⟨116, [e6b20, e6b22, e6b21, e6b32, e6b38, e6b23, e6b15 srtv, sI 57 v57, e6b6 ret51v srtv v57, e6b9 ret51v srtv v57, sI 77 v77, s1 99 (.own 6283), s1 100 (.own 83), e6b16], [e6b5, e6b2 number g w, e6b4 srtv v57, e6b12 number, hA 83 3 tI row, e6b17 srtv, e6b3 l6220, e6b24 l6283, e6b7, e6b0 g w rv, e6b1 ret51v]⟩ (by kernel_rfl) ?_
              refine awl_conv [.freeze 83] (st' := (⟨116, [e6b20, e6b22, e6b21, e6b32, e6b38, e6b23, e6b15 srtv, sI 57 v57, e6b6 ret51v srtv v57, e6b9 ret51v srtv v57, sI 77 v77, s1 99 (.own 6283), s1 100 (.pS row), e6b16], [e6b5, e6b2 number g w, e6b4 srtv v57, e6b12 number, e6b17 srtv, e6b3 l6220, e6b24 l6283, e6b7, e6b0 g w rv, e6b1 ret51v]⟩ : St)) (by kernel_rfl) ?_
              obtain ⟨o1, h⟩ := h
              refine rq 4 (ob := (Ts 1 (roomN (l6283.length + [row].length) ∧ Ts 2 True))) (st' := (⟨116, [e6b20, e6b22, e6b21, e6b32, e6b38, e6b23, e6b15 srtv, sI 57 v57, e6b6 ret51v srtv v57, e6b9 ret51v srtv v57, sI 77 v77, e6b16], [e6b5, e6b2 number g w, e6b33 srtv v57, e6b12 number, hA 102 25 (.sl tI) (l6283 ++ [row]), e6b17 srtv, e6b3 l6220, e6b7, e6b0 g w rv, e6b1 ret51v]⟩ : St)) (by kernel_rfl) (tsI 1 ⟨o1, tsI 2 trivial⟩) ?_
              refine awl_nil ?_
              refine blockQ_n ?_
              refine thenQ_n ?_
              refine aw_region ?_
              obtain ⟨o1, h⟩ := h
              refine rq 2 (ob := (InR (v77 + (1 : Int)) ∧ Ts 1 True)) (st' := (⟨116, [e6b20, e6b22, e6b21, e6b32, e6b38, e6b23, e6b15 srtv, sI 57 v57, e6b6 ret51v srtv v57, e6b9 ret51v srtv v57, sI 77 (v77 + (1 : Int)), e6b16], [e6b5, e6b2 number g w, e6b33 srtv v57, e6b12 number, hA 102 25 (.sl tI) (l6283 ++ [row]), e6b17 srtv, e6b3 l6220, e6b7, e6b0 g w rv, e6b1 ret51v]⟩ : St)) (by kernel_rfl) (⟨o1, tsI 1 trivial⟩) ?_
              refine awl_conv [.ren 102 20102, .ren 20102 6283, .prune e6bn1 e6bn0] (st' := (⟨116, [e6b20, e6b22, e6b21, e6b32, e6b38, e6b23, e6b15 srtv, sI 57 v57, e6b6 ret51v srtv v57, e6b9 ret51v srtv v57, sI 77 (v77 + (1 : Int)), e6b16], [e6b5, e6b2 number g w, e6b4 srtv v57, e6b12 number, e6b17 srtv, e6b3 l6220, hA 6283 25 (.sl tI) (l6283 ++ [row]), e6b7, e6b0 g w rv, e6b1 ret51v]⟩ : St)) (by kernel_rfl) ?_
              refine awl_nil ?_
              exact thenQ_n ⟨((v77 + (1 : Int)), (l6283 ++ [row])), rfl, h⟩
             ·refine aw_block ?_
              refine aw_loop (σ := Int × LI) (fun s => (⟨116, [e6b20, e6b22, e6b21, e6b32, e6b38, e6b44, e6b23, e6b15 srtv, sI 57 v57, e6b6 ret51v srtv v57, e6b9 ret51v srtv v57, sI 77 v77, e6b14 ret51v srtv v57 v77, e6b13 ret51v srtv v57 v77, sI 87 s.1, e6b16], [e6b5, e6b2 number g w, e6b4 srtv v57, e6b12 number, hA 83 3 tI s.2, e6b17 srtv, e6b3 l6220, e6b24 l6283, e6b7, e6b0 g w rv, e6b1 ret51v]⟩ : St)) (fun s X => VC6_l3 ret51v srtv number v57 v77 l6283 X2 s.1 s.2 X) (s0 := ((0 : Int), [(((mget ret51v (srtv.getD ((v57).toNat) z3)).getD ([] : (List (Int × LN)))).getD (v77).toNat ((0 : Int), ([] : LN))).1])) (fun s X3 h => ?_) h
              obtain ⟨v87, row⟩ := s
              have h : VC6_l3 ret51v srtv number v57 v77 l6283 X2 v87 row X3 := h
              unfold VC6_l3 at h
              refine srn 1 ⟨116, [e6b20, e6b22, e6b21, e6b32, e6b38, e6b44, e6b23, e6b15 srtv, sI 57 v57, e6b6 ret51v srtv v57, e6b9 ret51v srtv v57, sI 77 v77, e6b14 ret51v srtv v57 v77, e6b13 ret51v srtv v57 v77, sI 87 v87, sB 88 (decide (v87 < (((((mget ret51v (srtv.getD ((v57).toNat) z3)).getD ([] : (List (Int × LN)))).getD (v77).toNat ((0 : Int), ([] : LN))).2).length : Int))), e6b16], [e6b5, e6b2 number g w, e6b4 srtv v57, e6b12 number, hA 83 3 tI row, e6b17 srtv, e6b3 l6220, e6b24 l6283, e6b7, e6b0 g w rv, e6b1 ret51v]⟩ (by kernel_rfl) rfl ?_
              refine aw_seq ?_
              refine aw_cond (b := (decide (v87 < (((((mget ret51v (srtv.getD ((v57).toNat) z3)).getD ([] : (List (Int × LN)))).getD (v77).toNat ((0 : Int), ([] : LN))).2).length : Int)))) (by kernel_rfl) (fun hb => ?_) (fun hb => ?_)
              ·have h := h.1 hb
               refine aw_skip ?_
               refine thenQ_n ?_
               refine aw_seq ?_
               refine aw_block ?_
               refine sr ?_
               obtain ⟨o1, h⟩ := h
               refine rq 4 (ob := (inIdx v87 ((((mget ret51v (srtv.getD ((v57).toNat) z3)).getD ([] : (List (Int × LN)))).getD (v77).toNat ((0 : Int), ([] : LN))).2).length ∧ Ts 3 True)) (st' := (⟨116, [e6b20, e6b22, e6b21, e6b32, e6b38, e6b44, sp 19 19, e6b23, e6b15 srtv, sI 57 v57, e6b6 ret51v srtv v57, e6b9 ret51v srtv v57, sI 77 v77, e6b14 ret51v srtv v57 v77, e6b13 ret51v srtv v57 v77, sI 87 v87, e6b16], [e6b5, e6b2 number g w, e6b4 srtv v57, hB 19 [.pI ((((((mget ret51v (srtv.getD ((v57).toNat) z3)).getD ([] : (List (Int × LN)))).getD (v77).toNat ((0 : Int), ([] : LN))).2).getD (v87).toNat z3).1), .pI ((((((mget ret51v (srtv.getD ((v57).toNat) z3)).getD ([] : (List (Int × LN)))).getD (v77).toNat ((0 : Int), ([] : LN))).2).getD (v87).toNat z3).2.1), .pI ((((((mget ret51v (srtv.getD ((v57).toNat) z3)).getD ([] : (List (Int × LN)))).getD (v77).toNat ((0 : Int), ([] : LN))).2).getD (v87).toNat z3).2.2)], e6b12 number, hA 83 3 tI row, e6b17 srtv, e6b3 l6220, e6b24 l6283, e6b7, e6b0 g w rv, e6b1 ret51v]⟩ : St)) (by kernel_rfl) (⟨o1, tsI 3 trivial⟩) ?_
               refine nn ?_
               refine aw_region ?_
               obtain ⟨o1, h⟩ := h
               refine rq 7 (ob := (Ts 5 (roomN (row.length + [((mget number (((((mget ret51v (srtv.getD ((v57).toNat) z3)).getD ([] : (List (Int × LN)))).getD (v77).toNat ((0 : Int), ([] : LN))).2).getD (v87).toNat z3)).getD (0 : Int))].length) ∧ Ts 1 True))) (st' := (⟨116, [e6b20, e6b22, e6b21, e6b32, e6b38, s1 17 (.own 96), e6b23, e6b15 srtv, sI 57 v57, e6b6 ret51v srtv v57, e6b9 ret51v srtv v57, sI 77 v77, e6b14 ret51v srtv v57 v77, e6b13 ret51v srtv v57 v77, sI 87 v87, e6b16], [e6b5, e6b2 number g w, e6b4 srtv v57, e6b12 number, hA 96 3 tI (row ++ [((mget number (((((mget ret51v (srtv.getD ((v57).toNat) z3)).getD ([] : (List (Int × LN)))).getD (v77).toNat ((0 : Int), ([] : LN))).2).getD (v87).toNat z3)).getD (0 : Int))]), e6b17 srtv, e6b3 l6220, e6b24 l6283, e6b7, e6b0 g w rv, e6b1 ret51v]⟩ : St)) (by kernel_rfl) (tsI 5 ⟨o1, tsI 1 trivial⟩) ?_
               refine awl_nil ?_
               refine blockQ_n ?_
               refine thenQ_n ?_
               refine aw_region ?_
               obtain ⟨o1, h⟩ := h
               refine rq 2 (ob := (InR (v87 + (1 : Int)) ∧ Ts 1 True)) (st' := (⟨116, [e6b20, e6b22, e6b21, e6b32, e6b38, s1 17 (.own 96), e6b23, e6b15 srtv, sI 57 v57, e6b6 ret51v srtv v57, e6b9 ret51v srtv v57, sI 77 v77, e6b14 ret51v srtv v57 v77, e6b13 ret51v srtv v57 v77, sI 87 (v87 + (1 : Int)), e6b16], [e6b5, e6b2 number g w, e6b4 srtv v57, e6b12 number, hA 96 3 tI (row ++ [((mget number (((((mget ret51v (srtv.getD ((v57).toNat) z3)).getD ([] : (List (Int × LN)))).getD (v77).toNat ((0 : Int), ([] : LN))).2).getD (v87).toNat z3)).getD (0 : Int))]), e6b17 srtv, e6b3 l6220, e6b24 l6283, e6b7, e6b0 g w rv, e6b1 ret51v]⟩ : St)) (by kernel_rfl) (⟨o1, tsI 1 trivial⟩) ?_
               refine awl_conv [.ren 96 20096, .ren 20096 83] (st' := (⟨116, [e6b20, e6b22, e6b21, e6b32, e6b38, e6b44, e6b23, e6b15 srtv, sI 57 v57, e6b6 ret51v srtv v57, e6b9 ret51v srtv v57, sI 77 v77, e6b14 ret51v srtv v57 v77, e6b13 ret51v srtv v57 v77, sI 87 (v87 + (1 : Int)), e6b16], [e6b5, e6b2 number g w, e6b4 srtv v57, e6b12 number, hA 83 3 tI (row ++ [((mget number (((((mget ret51v (srtv.getD ((v57).toNat) z3)).getD ([] : (List (Int × LN)))).getD (v77).toNat ((0 : Int), ([] : LN))).2).getD (v87).toNat z3)).getD (0 : Int))]), e6b17 srtv, e6b3 l6220, e6b24 l6283, e6b7, e6b0 g w rv, e6b1 ret51v]⟩ : St)) (by kernel_rfl) ?_
               refine awl_nil ?_
               exact thenQ_n ⟨((v87 + (1 : Int)), (row ++ [((mget number (((((mget ret51v (srtv.getD ((v57).toNat) z3)).getD ([] : (List (Int × LN)))).getD (v77).toNat ((0 : Int), ([] : LN))).2).getD (v87).toNat z3)).getD (0 : Int))])), rfl, h⟩
              ·have h := h.2 hb
               refine cpr (st' := (⟨116, [e6b20, e6b22, e6b21, e6b32, e6b38, e6b44, e6b23, e6b15 srtv, sI 57 v57, e6b6 ret51v srtv v57, e6b9 ret51v srtv v57, sI 77 v77, e6b16], [e6b5, e6b2 number g w, e6b4 srtv v57, e6b12 number, hA 83 3 tI row, e6b17 srtv, e6b3 l6220, e6b24 l6283, e6b7, e6b0 g w rv, e6b1 ret51v]⟩ : St)) (by kernel_rfl) ?_
               refine aw_exit ?_
               refine thenQ_x ?_
               refine thenQ_x ?_
               refine blockQ_hit ?_
               exact rest4 row h
            ·have h := h.2 hb
             refine cpr (st' := (⟨116, [e6b20, e6b22, e6b21, e6b32, e6b38, e6b23, e6b15 srtv, sI 57 v57, e6b16], [e6b5, e6b2 number g w, e6b4 srtv v57, e6b12 number, e6b17 srtv, e6b3 l6220, e6b24 l6283, e6b7, e6b0 g w rv, e6b1 ret51v]⟩ : St)) (by kernel_rfl) ?_
             refine aw_exit ?_
             refine thenQ_x ?_
             refine thenQ_x ?_
             refine blockQ_hit ?_
             exact rest3 l6283 h
          ·have h := h.2 hb
           refine cpr (st' := (⟨116, [e6b22, e6b32, e6b16], [e6b5, e6b2 number g w, e6b3 l6220, e6b7]⟩ : St)) (by kernel_rfl) ?_
           refine aw_exit ?_
           refine thenQ_x ?_
           refine thenQ_x ?_
           refine blockQ_hit ?_
           exact rest2 l6220 h
        ·refine aw_block ?_
         refine aw_loop (σ := Int × (List ((Int × (Int × Int)) × Int))) (fun s => (⟨116, [e6b20, sp 3 3, e6b22, e6b29, e6b21, e6b45, sI 41 (srtv.length : Int), sI 42 s.1, e6b16], [e6b10 g w, e6b5, (39, [], .dict t3 tI s.2), e6b17 srtv, e6b7, e6b0 g w rv, e6b1 ret51v]⟩ : St)) (fun s X => VC6_l4 g w K ret51v srtv s.1 s.2 X) (s0 := ((0 : Int), ([] : List ((Int × (Int × Int)) × Int)))) (fun s X4 h => ?_) h
         obtain ⟨v42, number⟩ := s
         have h : VC6_l4 g w K ret51v srtv v42 number X4 := h
         unfold VC6_l4 at h
         refine srn 1 ⟨116, [e6b20, sp 3 3, e6b22, e6b29, e6b21, e6b45, sI 41 (srtv.length : Int), sI 42 v42, sB 43 (decide (v42 < (srtv.length : Int))), e6b16], [e6b10 g w, e6b5, e6b12 number, e6b17 srtv, e6b7, e6b0 g w rv, e6b1 ret51v]⟩ (by kernel_rfl) rfl ?_
         refine aw_seq ?_
         refine aw_cond (b := (decide (v42 < (srtv.length : Int)))) (by kernel_rfl) (fun hb => ?_) (fun hb => ?_)
         ·have h := h.1 hb
          refine aw_skip ?_
          refine thenQ_n ?_
          refine aw_seq ?_
          refine aw_block ?_
          refine sr ?_
          obtain ⟨o1, h⟩ := h
          refine rq 6 (ob := (Ts 1 (inIdx v42 srtv.length ∧ Ts 4 True))) (st' := (⟨116, [e6b20, sp 3 3, e6b22, e6b29, e6b21, sI 9 v42, sp 10 10, e6b45, sI 41 (srtv.length : Int), sI 42 v42, e6b16], [e6b10 g w, e6b5, hB 10 [.pI ((srtv.getD ((v42).toNat) z3).1), .pI ((srtv.getD ((v42).toNat) z3).2.1), .pI ((srtv.getD ((v42).toNat) z3).2.2)], e6b12 number, e6b17 srtv, e6b7, e6b0 g w rv, e6b1 ret51v]⟩ : St)) (by kernel_rfl) (tsI 1 ⟨o1, tsI 4 trivial⟩) ?_
          refine nn ?_
          refine aw_region ?_
          refine rqT 4 ⟨116, [e6b20, sp 3 3, e6b22, e6b29, e6b21, e6b45, sI 41 (srtv.length : Int), sI 42 v42, e6b16], [e6b10 g w, e6b5, (39, [], .dict t3 tI (mset number (srtv.getD ((v42).toNat) z3) v42)), e6b17 srtv, e6b7, e6b0 g w rv, e6b1 ret51v]⟩ (by kernel_rfl) ?_
          refine awl_nil ?_
          refine blockQ_n ?_
          refine thenQ_n ?_
          refine aw_region ?_
          obtain ⟨o1, h⟩ := h
          refine rq 2 (ob := (InR (v42 + (1 : Int)) ∧ Ts 1 True)) (st' := (⟨116, [e6b20, sp 3 3, e6b22, e6b29, e6b21, e6b45, sI 41 (srtv.length : Int), sI 42 (v42 + (1 : Int)), e6b16], [e6b10 g w, e6b5, (39, [], .dict t3 tI (mset number (srtv.getD ((v42).toNat) z3) v42)), e6b17 srtv, e6b7, e6b0 g w rv, e6b1 ret51v]⟩ : St)) (by kernel_rfl) (⟨o1, tsI 1 trivial⟩) ?_
          refine awl_nil ?_
          exact thenQ_n ⟨((v42 + (1 : Int)), (mset number (srtv.getD ((v42).toNat) z3) v42)), rfl, h⟩
         ·have h := h.2 hb
          refine cpr (st' := (⟨116, [e6b20, sp 3 3, e6b22, e6b29, e6b21, e6b16], [e6b10 g w, e6b5, e6b12 number, e6b17 srtv, e6b7, e6b0 g w rv, e6b1 ret51v]⟩ : St)) (by kernel_rfl) ?_
          refine aw_exit ?_
          refine thenQ_x ?_
          refine thenQ_x ?_
          refine blockQ_hit ?_
          exact rest5 number h
      ·refine aw_block ?_
       refine aw_conv [.nilOwn 6 5006 58 t3, .prune [0, 3, 4, 6, 24, 120] [3, 4, 24, 5006, 30000, 70000, 70001]] (st' := (⟨116, [e6b20, sp 3 3, e6b22, e6b29, sp 24 24, e6b16], [e6b10 g w, e6b5, (24, [], .mit (.own 70001) ret51v.length ([] : List Nat)), hA 5006 58 t3 ([] : List (Int × (Int × Int))), e6b7, e6b0 g w rv, e6b1 ret51v]⟩ : St)) (by kernel_rfl) ?_
       refine aw_loop (σ := (List Nat) × LN) (fun s => (⟨116, [e6b20, sp 3 3, e6b22, e6b29, sp 24 24, e6b16], [e6b10 g w, e6b5, (24, [], .mit (.own 70001) ret51v.length s.1), hA 5006 58 t3 s.2, e6b7, e6b0 g w rv, e6b1 ret51v]⟩ : St)) (fun s X => VC6_l5 g w K ret51v s.1 s.2 X) (s0 := (([] : List Nat), ([] : List (Int × (Int × Int))))) (fun s X5 h => ?_) h
       obtain ⟨l24, keys⟩ := s
       have h : VC6_l5 g w K ret51v l24 keys X5 := h
       unfold VC6_l5 at h
       refine sr ?_
       refine awl_next (t := 24) (d := 25) (q := 70001) (r := 24) (n := ret51v.length) (k := t3) (v := (.sl (.pr tI (.sl t3)))) (l := ret51v) (seen := l24) rfl rfl rfl (by kernel_rfl) (by kernel_rfl) (by kernel_rfl) (by kernel_rfl) rfl (fun j25 hj1 hj2 => ?_) (fun hall => ?_)
       ·have h := h.1 j25 hj1 hj2
        refine lpr (st' := (⟨116, [e6b20, sp 3 3, e6b22, e6b29, sp 24 24, (25, [], .tup [.c (.pB true), .c (.any), .c (.any)]), e6b16], [e6b10 g w, e6b5, e6b30 ret51v l24 j25, e6b42 keys, e6b7, e6b0 g w rv, e6b1 ret51v]⟩ : St)) (by kernel_rfl) ?_
        refine rqT 1 ⟨116, [e6b20, sp 3 3, e6b22, e6b29, sp 24 24, sB 26 true, e6b16], [e6b10 g w, e6b5, e6b30 ret51v l24 j25, e6b42 keys, e6b7, e6b0 g w rv, e6b1 ret51v]⟩ (by kernel_rfl) ?_
        refine nn ?_
        refine aw_seq ?_
        refine aw_cond (b := true) (by kernel_rfl) (fun _ => ?_) (fun hb => by cases hb)
        refine aw_skip ?_
        refine thenQ_n ?_
        refine aw_block ?_
        refine sr ?_
        obtain ⟨hi, h⟩ := h
        refine awl_entry (t := 24) (d := 27) (q := 70001) (r := 24) (n := ret51v.length) (k := t3) (v := (.sl (.pr tI (.sl t3)))) (l := ret51v) (i := j25) (seen := l24) (z3, ([] : (List (Int × LN)))) rfl rfl rfl (by kernel_rfl) (by kernel_rfl) (by kernel_rfl) (by kernel_rfl) rfl hi ?_
        refine lpr (st' := (⟨116, [e6b20, sp 3 3, e6b22, e6b29, sp 24 24, (27, [], .tup [.agg [.pI ((ret51v.getD j25 (z3, ([] : (List (Int × LN))))).1.1), .pI ((ret51v.getD j25 (z3, ([] : (List (Int × LN))))).1.2.1), .pI ((ret51v.getD j25 (z3, ([] : (List (Int × LN))))).1.2.2)], .c (.p (.sl (.pr tI (.sl t3))) ((ret51v.getD j25 (z3, ([] : (List (Int × LN))))).2))]), e6b16], [e6b10 g w, e6b5, e6b30 ret51v l24 j25, e6b42 keys, e6b7, e6b0 g w rv, e6b1 ret51v]⟩ : St)) (by kernel_rfl) ?_
        refine rqT 3 ⟨116, [e6b20, sp 3 3, e6b22, e6b29, sp 7 7, sp 24 24, e6b16], [e6b10 g w, e6b5, hB 7 [.pI ((ret51v.getD j25 (z3, ([] : (List (Int × LN))))).1.1), .pI ((ret51v.getD j25 (z3, ([] : (List (Int × LN))))).1.2.1), .pI ((ret51v.getD j25 (z3, ([] : (List (Int × LN))))).1.2.2)], e6b30 ret51v l24 j25, e6b42 keys, e6b7, e6b0 g w rv, e6b1 ret51v]⟩ (by kernel_rfl) ?_
        refine nn ?_
        refine aw_region ?_
        obtain ⟨o1, h⟩ := h
        refine rq 5 (ob := (Ts 3 (roomN (keys.length + [(ret51v.getD j25 (z3, ([] : (List (Int × LN))))).1].length) ∧ Ts 1 True))) (st' := (⟨116, [e6b20, sp 3 3, e6b22, s1 6 (.own 32), sp 24 24, e6b16], [e6b10 g w, e6b5, e6b30 ret51v l24 j25, hA 32 58 t3 (keys ++ [(ret51v.getD j25 (z3, ([] : (List (Int × LN))))).1]), e6b7, e6b0 g w rv, e6b1 ret51v]⟩ : St)) (by kernel_rfl) (tsI 3 ⟨o1, tsI 1 trivial⟩) ?_
        refine awl_conv [.ren 32 20032, .ren 20032 5006] (st' := (⟨116, [e6b20, sp 3 3, e6b22, e6b29, sp 24 24, e6b16], [e6b10 g w, e6b5, e6b30 ret51v l24 j25, hA 5006 58 t3 (keys ++ [(ret51v.getD j25 (z3, ([] : (List (Int × LN))))).1]), e6b7, e6b0 g w rv, e6b1 ret51v]⟩ : St)) (by kernel_rfl) ?_
        refine awl_nil ?_
        refine blockQ_n ?_
        exact thenQ_n ⟨(l24 ++ [j25], (keys ++ [(ret51v.getD j25 (z3, ([] : (List (Int × LN))))).1])), rfl, h⟩
       ·have h := h.2 hall
        refine lpr (st' := (⟨116, [e6b20, sp 3 3, e6b22, e6b29, sp 24 24, (25, [], .tup [.c (.pB false)]), e6b16], [e6b10 g w, e6b5, (24, [], .mit (.own 70001) ret51v.length l24), e6b42 keys, e6b7, e6b0 g w rv, e6b1 ret51v]⟩ : St)) (by kernel_rfl) ?_
        refine rqT 1 ⟨116, [e6b20, sp 3 3, e6b22, e6b29, sp 24 24, sB 26 false, e6b16], [e6b10 g w, e6b5, (24, [], .mit (.own 70001) ret51v.length l24), e6b42 keys, e6b7, e6b0 g w rv, e6b1 ret51v]⟩ (by kernel_rfl) ?_
        refine nn ?_
        refine aw_seq ?_
        refine aw_cond (b := false) (by kernel_rfl) (fun hb => by cases hb) (fun _ => ?_)
        refine cpr (st' := (⟨116, [e6b20, sp 3 3, e6b22, e6b29, e6b16], [e6b10 g w, e6b5, e6b42 keys, e6b7, e6b0 g w rv, e6b1 ret51v]⟩ : St)) (by kernel_rfl) ?_
        refine aw_exit ?_
        refine thenQ_x ?_
        refine thenQ_x ?_
        refine blockQ_hit ?_
        exact rest6 keys h
   ·refine awd_begin [] (by kernel_rfl) ?_
    refine drq (by kernel_rfl) [0, 1, 2, 3] (ob := (Ts 4 True)) (done' := [3, 2, 1, 0]) (st' := (⟨57, [e6b36 w, sp 2 2, e6b22, e6b27 g, s1 21 (.pS w), e6b41 g, s1 23 (.pS w)], [e6b8 g, e6b5]⟩ : St)) (by kernel_rfl) (tsI 4 trivial) ?_
    refine awd_two (i := 4) (j := 5) (by kernel_rfl) ?_ ?_
    ·have h := h
     refine dcq (d := 24) [.d tG, .d (.sl tI)] (fun ret24v => (⟨57, [e6b36 w, sp 2 2, e6b22, e6b27 g, s1 21 (.pS w), e6b39 ret24v], [e6b8 g, e6b5]⟩ : St)) rfl (by kernel_rfl) Try.call14 (fun _ => by kernel_rfl) (link14 g w _ h) (fun ret24v h => ?_)
     refine awd_one (i := 5) (by kernel_rfl) ?_
     refine dsq (ob := True) (st' := (⟨57, [e6b36 w, sp 2 2, e6b22, e6b27 g, s1 21 (.pS w), e6b39 ret24v, s1 25 (.own 25)], [e6b8 g, e6b5, e6b11]⟩ : St)) rfl (by kernel_rfl) trivial ?_
     refine drq (by kernel_rfl) [6] (ob := (Ts 1 True)) (done' := [6, 5, 4, 3, 2, 1, 0]) (st' := (⟨57, [e6b36 w, sp 2 2, e6b22, e6b31 g w ret24v], [e6b8 g, e6b5, e6b11]⟩ : St)) (by kernel_rfl) (tsI 1 trivial) ?_
     refine awd_one (i := 7) (by kernel_rfl) ?_
     refine dsq (ob := True) (st' := (⟨57, [e6b36 w, sp 2 2, e6b22, sp 27 27], [e6b8 g, e6b5, e6b11, e6b19 g w ret24v]⟩ : St)) rfl (by kernel_rfl) trivial ?_
     refine drq (by kernel_rfl) [8] (ob := (Ts 1 True)) (done' := [8, 7, 6, 5, 4, 3, 2, 1, 0]) (st' := (⟨57, [e6b36 w, sp 2 2, e6b22, sp 7 27], [e6b8 g, e6b5, e6b11, e6b19 g w ret24v]⟩ : St)) (by kernel_rfl) (tsI 1 trivial) ?_
     refine awd_done (by kernel_rfl) ?_
     exact rest7 ret24v h
    ·have h := h
     refine dsq (ob := True) (st' := (⟨57, [e6b36 w, sp 2 2, e6b22, e6b27 g, s1 21 (.pS w), e6b41 g, s1 23 (.pS w), s1 25 (.own 25)], [e6b8 g, e6b5, e6b11]⟩ : St)) rfl (by kernel_rfl) trivial ?_
     refine awd_one (i := 4) (by kernel_rfl) ?_
     refine dcq (d := 24) [.d tG, .d (.sl tI)] (fun ret24v => (⟨57, [e6b36 w, sp 2 2, e6b22, e6b27 g, s1 21 (.pS w), e6b39 ret24v, s1 25 (.own 25)], [e6b8 g, e6b5, e6b11]⟩ : St)) rfl (by kernel_rfl) Try.call14 (fun _ => by kernel_rfl) (link14 g w _ h) (fun ret24v h => ?_)
     refine drq (by kernel_rfl) [6] (ob := (Ts 1 True)) (done' := [6, 4, 5, 3, 2, 1, 0]) (st' := (⟨57, [e6b36 w, sp 2 2, e6b22, e6b31 g w ret24v], [e6b8 g, e6b5, e6b11]⟩ : St)) (by kernel_rfl) (tsI 1 trivial) ?_
     refine awd_one (i := 7) (by kernel_rfl) ?_
     refine dsq (ob := True) (st' := (⟨57, [e6b36 w, sp 2 2, e6b22, sp 27 27], [e6b8 g, e6b5, e6b11, e6b19 g w ret24v]⟩ : St)) rfl (by kernel_rfl) trivial ?_
     refine drq (by kernel_rfl) [8] (ob := (Ts 1 True)) (done' := [8, 7, 6, 4, 5, 3, 2, 1, 0]) (st' := (⟨57, [e6b36 w, sp 2 2, e6b22, sp 7 27], [e6b8 g, e6b5, e6b11, e6b19 g w ret24v]⟩ : St)) (by kernel_rfl) (tsI 1 trivial) ?_
     refine awd_done (by kernel_rfl) ?_
     exact rest7 ret24v h
-- coppicer/table.Times
def VC24 (a : Int) (b : Int) (K : Int → Prop) : Prop :=
  ((((decide (a = (0 : Int))) || (decide (b = (0 : Int)))) = true → K (0 : Int)) ∧ (((decide (a = (0 : Int))) || (decide (b = (0 : Int)))) = false → ((0 ≤ (1099511627777 : Int) ∧ 0 < b) ∧ (((decide (((1099511627777 : Int) / b) < a)) = true → K (1099511627777 : Int)) ∧ ((decide (((1099511627777 : Int) / b) < a)) = false → (InR (a * b) ∧ K (imin (a * b) (1099511627777 : Int))))))))
set_option maxHeartbeats 4000000 in
theorem link24 (a : Int) (b : Int) (K : Int → Prop) (h : VC24 a b K) : ACalls Try.prog 24 [toV1 tI a, toV1 tI b] (fun res => ∃ y, res = (fun y => [toV1 tI y]) y ∧ K y) := by
 refine acalls_of_aw [tI] [.t 4] Try.func24 rfl rfl rfl ?_
 unfold VC24 at h
 refine srn 1 ⟨19, [sI 0 a, sI 1 b], []⟩ (by kernel_rfl) rfl ?_
 refine aw_seq ?_
 refine sr ?_
 refine rq 6 (ob := (Ts 3 (Ti 2 ((decide (a = (0 : Int))) = false → True) (Ts 1 True)))) (st' := (⟨19, [sI 0 a, sI 1 b, sB 10 ((decide (a = (0 : Int))) || (decide (b = (0 : Int))))], []⟩ : St)) (by kernel_rfl) (tsI 3 (tiI 2 (fun _ => trivial) (tsI 1 trivial))) ?_
 refine nn ?_
 refine aw_cond (b := ((decide (a = (0 : Int))) || (decide (b = (0 : Int))))) (by kernel_rfl) (fun hb => ?_) (fun hb => ?_)
 ·have h := h.1 hb
  refine srn 1 ⟨19, [sI 4 (0 : Int)], []⟩ (by kernel_rfl) rfl ?_
  refine aw_ret ?_
  refine thenQ_r ?_
  exact retQ_r (ob := Ts 1 True) _ (by kernel_rfl) (tsI 1 trivial) h
 ·have h := h.2 hb
  refine aw_skip ?_
  refine thenQ_n ?_
  refine aw_seq ?_
  refine sr ?_
  obtain ⟨o1, h⟩ := h
  refine rq 4 (ob := (Ts 2 ((0 ≤ (1099511627777 : Int) ∧ 0 < b) ∧ Ts 1 True))) (st' := (⟨19, [sI 0 a, sI 1 b, sB 14 (decide (((1099511627777 : Int) / b) < a))], []⟩ : St)) (by kernel_rfl) (tsI 2 ⟨o1, tsI 1 trivial⟩) ?_
  refine nn ?_
  refine aw_cond (b := (decide (((1099511627777 : Int) / b) < a))) (by kernel_rfl) (fun hb => ?_) (fun hb => ?_)
  ·have h := h.1 hb
   refine srn 1 ⟨19, [sI 4 (1099511627777 : Int)], []⟩ (by kernel_rfl) rfl ?_
   refine aw_ret ?_
   refine thenQ_r ?_
   exact retQ_r (ob := Ts 1 True) _ (by kernel_rfl) (tsI 1 trivial) h
  ·have h := h.2 hb
   refine aw_skip ?_
   refine thenQ_n ?_
   refine sr ?_
   obtain ⟨o1, h⟩ := h
   refine rq 5 (ob := (Ts 2 (InR (a * b) ∧ Ts 2 True))) (st' := (⟨19, [sI 4 (imin (a * b) (1099511627777 : Int))], []⟩ : St)) (by kernel_rfl) (tsI 2 ⟨o1, tsI 2 trivial⟩) ?_
   refine nn ?_
   refine aw_ret ?_
   exact retQ_r (ob := Ts 1 True) _ (by kernel_rfl) (tsI 1 trivial) h
-- coppicer/table.Add
def VC25 (a : Int) (b : Int) (K : Int → Prop) : Prop :=
  (InR (a + b) ∧ K (imin (a + b) (1099511627777 : Int)))
set_option maxHeartbeats 4000000 in
theorem link25 (a : Int) (b : Int) (K : Int → Prop) (h : VC25 a b K) : ACalls Try.prog 25 [toV1 tI a, toV1 tI b] (fun res => ∃ y, res = (fun y => [toV1 tI y]) y ∧ K y) := by
 refine acalls_of_aw [tI] [.t 4] Try.func25 rfl rfl rfl ?_
 unfold VC25 at h
 refine sr ?_
 refine rqT 1 ⟨9, [sI 0 a, sI 1 b], []⟩ (by kernel_rfl) ?_
 refine nsr ?_
 obtain ⟨o1, h⟩ := h
 refine rq 5 (ob := (Ts 2 (InR (a + b) ∧ Ts 2 True))) (st' := (⟨9, [sI 4 (imin (a + b) (1099511627777 : Int))], []⟩ : St)) (by kernel_rfl) (tsI 2 ⟨o1, tsI 2 trivial⟩) ?_
 refine nn ?_
 refine aw_ret ?_
 exact retQ_r (ob := Ts 1 True) _ (by kernel_rfl) (tsI 1 trivial) h
abbrev e9_0 (c0 : Int) (c1 : Int) (c2 : Int) (c3 : LR) (c4 : LI) : Nat × Path × Con := hB 70100 [.pI c0, .pI c1, .pI c2, .p (.sl tR) c3, .pS c4, .own 70101]
abbrev e9_1 (c3 : LR) (c : Int) (rule : Int) : Nat × Path × AV := sI 1 ((((c3.getD (c).toNat ((0 : Int), ([] : LI))).2).drop (rule).toNat).getD ((0 : Int)).toNat (0 : Int))
abbrev e9_2 (c3 : LR) (c : Int) (rule : Int) (fromv : Int) (over : Int) : Nat × Path × Con := hB 7 [.pI (-1 : Int), .pI ((((c3.getD (c).toNat ((0 : Int), ([] : LI))).2).drop (rule).toNat).getD ((0 : Int)).toNat (0 : Int)), .pI fromv, .pI over]
abbrev e9_3 (c3 : LR) (c : Int) (rule : Int) (fromv : Int) (endv : Int) : Nat × Path × Con := hB 7 [.pI (-1 : Int), .pI ((((c3.getD (c).toNat ((0 : Int), ([] : LI))).2).drop (rule).toNat).getD ((0 : Int)).toNat (0 : Int)), .pI fromv, .pI endv]
abbrev e9_4 (c3 : LR) (c : Int) (rule : Int) : Nat × Path × AV := s1 96 (.pS (((c3.getD (c).toNat ((0 : Int), ([] : LI))).2).drop (rule).toNat))
abbrev e9_5 (c : Int) (rule : Int) (fromv : Int) (over : Int) : Nat × Path × Con := hB 30101 [.pI c, .pI rule, .pI fromv, .pI over]
abbrev e9_6 (c3 : LR) (c : Int) (rule : Int) : Nat × Path × AV := s1 9 (.pS (((c3.getD (c).toNat ((0 : Int), ([] : LI))).2).drop (rule).toNat))
abbrev e9_7 (l70101 : LK) : Nat × Path × Con := (70101, [], .dict (.pr tI t3) tI l70101)
abbrev e9_8 (c5 : LK) : Nat × Path × Con := (70101, [], .dict (.pr tI t3) tI c5)
abbrev e9_9 (c3 : LR) : Nat × Path × AV := s1 56 (.p (.sl tR) c3)
abbrev e9_10 (fromv : Int) (over : Int) : Nat × Path × Con := hB 30100 [.pI fromv, .pI over]
abbrev e9_11 (l701012 : LK) : Nat × Path × Con := (70101, [], .dict (.pr tI t3) tI l701012)
abbrev e9_12 : Nat × Path × AV := sp 0 70100
abbrev e9_13 : Nat × Path × AV := sp 186 70100
abbrev e9_14 (ret77v : Int × LK) : Nat × Path × Con := (70101, [], .dict (.pr tI t3) tI ret77v.2)
abbrev e9_15 (c3 : LR) : Nat × Path × AV := sI 57 (c3.length : Int)
abbrev e9_16 (fromv : Int) (over : Int) : Nat × Path × Con := hB 5 [.pI fromv, .pI over]
abbrev e9_17 (fromv : Int) (endv : Int) : Nat × Path × Con := hB 5 [.pI fromv, .pI endv]
abbrev e9_18 : Nat × Path × AV := sp 99 70100
abbrev e9_19 (c : Int) (rule : Int) (fromv : Int) (over : Int) : Nat × Path × Con := hB 10 [.pI c, .pI rule, .pI fromv, .pI over]
abbrev e9_20 (l701012 : LK) (c3 : LR) (c : Int) (rule : Int) (fromv : Int) (endv : Int) (n2 : Int) : Nat × Path × Con := (70101, [], .dict (.pr tI t3) tI (mset l701012 ((-1 : Int), (((((c3.getD (c).toNat ((0 : Int), ([] : LI))).2).drop (rule).toNat).getD ((0 : Int)).toNat (0 : Int)), (fromv, endv))) n2))
abbrev e9_21 (ret89v : Int × LK) : Nat × Path × Con := (70101, [], .dict (.pr tI t3) tI ret89v.2)
abbrev e9_22 (c3 : LR) (v58 : Int) (c : Int) (rule : Int) (c0 : Int) : Nat × Path × AV := sB 72 (decide ((c3.getD (v58).toNat ((0 : Int), ([] : LI))).1 = (((((c3.getD (c).toNat ((0 : Int), ([] : LI))).2).drop (rule).toNat).getD ((0 : Int)).toNat (0 : Int)) - c0)))
abbrev e9_23 : Nat × Path × AV := sp 87 70100
abbrev e9_24 : Nat × Path × AV := sp 94 30100
abbrev e9_25 : Nat × Path × AV := sp 97 30101
abbrev e9_26 (c5 : LK) (c3 : LR) (c : Int) (rule : Int) (fromv : Int) (over : Int) : Nat × Path × AV := sI 8 ((mget c5 ((-1 : Int), (((((c3.getD (c).toNat ((0 : Int), ([] : LI))).2).drop (rule).toNat).getD ((0 : Int)).toNat (0 : Int)), (fromv, over)))).getD (0 : Int))
abbrev e9_27 (c3 : LR) (c : Int) (rule : Int) : Nat × Path × AV := sI 71 ((((c3.getD (c).toNat ((0 : Int), ([] : LI))).2).drop (rule).toNat).getD ((0 : Int)).toNat (0 : Int))
abbrev e9_28 (fromv : Int) (over : Int) : Nat × Path × Con := hB 7 [.pI fromv, .pI over]
abbrev e9_29 : Nat × Path × AV := sp 7 7
abbrev e9_30 (c3 : LR) (c : Int) (rule : Int) (c0 : Int) : Nat × Path × AV := sB 19 (decide (((((c3.getD (c).toNat ((0 : Int), ([] : LI))).2).drop (rule).toNat).getD ((0 : Int)).toNat (0 : Int)) < c0))
abbrev e9_31 (c3 : LR) (v58 : Int) : Nat × Path × Con := hB 12 [.pI ((c3.getD (v58).toNat ((0 : Int), ([] : LI))).1), .pS ((c3.getD (v58).toNat ((0 : Int), ([] : LI))).2)]
abbrev e9_32 (c3 : LR) (c : Int) (rule : Int) : Nat × Path × AV := sB 37 (decide (((((c3.getD (c).toNat ((0 : Int), ([] : LI))).2).drop (rule).toNat).length : Int) = (1 : Int)))
abbrev e9_33 (l701013 : LK) : Nat × Path × Con := (70101, [], .dict (.pr tI t3) tI l701013)
abbrev e9_34 : Nat × Path × AV := sp 10 30101
abbrev e9_35 : Nat × Path × AV := sp 7 30100
abbrev e9_n0 : List Nat := [0, 1, 2, 3, 4, 5, 6, 7, 8, 9, 10, 11, 12, 13, 14, 15, 16, 17]
abbrev e9_n1 : List Nat := [17, 16, 15, 14, 13, 12, 11, 10, 9, 8, 7, 6, 5, 4, 3, 2, 1, 0]
abbrev e9_n2 : List Nat := [0, 1, 2, 3, 4, 5, 6, 7, 8, 9, 10]
abbrev e9_n3 : List Nat := [10, 9, 8, 7, 6, 5, 4, 3, 2, 1, 0]
-- (*coppicer/table.Counter).Row
def VCc66_k1 (K : Int × LK → Prop) (v6 : Int) (l70101 : LK) : Prop :=
  K (v6, l70101)
def VCc66_k2 (c3 : LR) (c : Int) (rule : Int) (fromv : Int) (over : Int) (K : Int × LK → Prop) (n : Int) (l70101 : LK) : Prop :=
  VCc66_k1 K n (mset l70101 ((-1 : Int), (((((c3.getD (c).toNat ((0 : Int), ([] : LI))).2).drop (rule).toNat).getD ((0 : Int)).toNat (0 : Int)), (fromv, over))) n)
def VCc66_k3 (v58 : Int) (X1 : Int × Int × LK → Prop) (n2 : Int) (l701012 : LK) : Prop :=
  (InR (v58 + (1 : Int)) ∧ X1 (n2, (v58 + (1 : Int)), l701012))
def VCc66_l1 (c0 : Int) (c3 : LR) (R : Int → Int → Int → Int → LK → (Int × LK → Prop) → Prop) (c : Int) (rule : Int) (fromv : Int) (over : Int) (K : Int × LK → Prop) (n : Int) (v58 : Int) (l70101 : LK) (X1 : Int × Int × LK → Prop) : Prop :=
  (((decide (v58 < (c3.length : Int))) = true → (inIdx v58 c3.length ∧ (InR (((((c3.getD (c).toNat ((0 : Int), ([] : LI))).2).drop (rule).toNat).getD ((0 : Int)).toNat (0 : Int)) - c0) ∧ (((decide ((c3.getD (v58).toNat ((0 : Int), ([] : LI))).1 = (((((c3.getD (c).toNat ((0 : Int), ([] : LI))).2).drop (rule).toNat).getD ((0 : Int)).toNat (0 : Int)) - c0))) = true → R v58 (0 : Int) fromv over l70101 (fun (ret77v : Int × LK) => VC25 n ret77v.1 (fun (ret78v : Int) => VCc66_k3 v58 X1 ret78v ret77v.2))) ∧ ((decide ((c3.getD (v58).toNat ((0 : Int), ([] : LI))).1 = (((((c3.getD (c).toNat ((0 : Int), ([] : LI))).2).drop (rule).toNat).getD ((0 : Int)).toNat (0 : Int)) - c0))) = false → VCc66_k3 v58 X1 n l70101))))) ∧ ((decide (v58 < (c3.length : Int))) = false → VCc66_k2 c3 c rule fromv over K n l70101))
def VCc66_k4 (c : Int) (rule : Int) (fromv : Int) (over : Int) (K : Int × LK → Prop) (n : Int) (l70101 : LK) : Prop :=
  K (n, (mset l70101 (c, (rule, (fromv, over))) n))
def VCc66_k6 (endv : Int) (X2 : Int × Int × LK → Prop) (n2 : Int) (l701013 : LK) : Prop :=
  (InR (endv + (1 : Int)) ∧ X2 (n2, (endv + (1 : Int)), l701013))
def VCc66_k5 (R : Int → Int → Int → Int → LK → (Int × LK → Prop) → Prop) (c : Int) (rule : Int) (over : Int) (n : Int) (endv : Int) (X2 : Int × Int × LK → Prop) (v6 : Int) (l701012 : LK) : Prop :=
  (((decide ((0 : Int) < v6)) = true → (InR (rule + (1 : Int)) ∧ R c (rule + (1 : Int)) endv over l701012 (fun (ret89v : Int × LK) => VC24 v6 ret89v.1 (fun (ret90v : Int) => VC25 n ret90v (fun (ret91v : Int) => VCc66_k6 endv X2 ret91v ret89v.2))))) ∧ ((decide ((0 : Int) < v6)) = false → VCc66_k6 endv X2 n l701012))
def VCc66_k7 (c3 : LR) (R : Int → Int → Int → Int → LK → (Int × LK → Prop) → Prop) (c : Int) (rule : Int) (fromv : Int) (over : Int) (n : Int) (endv : Int) (X2 : Int × Int × LK → Prop) (n2 : Int) (l701012 : LK) : Prop :=
  VCc66_k5 R c rule over n endv X2 n2 (mset l701012 ((-1 : Int), (((((c3.getD (c).toNat ((0 : Int), ([] : LI))).2).drop (rule).toNat).getD ((0 : Int)).toNat (0 : Int)), (fromv, endv))) n2)
def VCc66_k8 (v58 : Int) (X3 : Int × Int × LK → Prop) (n3 : Int) (l701013 : LK) : Prop :=
  (InR (v58 + (1 : Int)) ∧ X3 (n3, (v58 + (1 : Int)), l701013))
def VCc66_l3 (c0 : Int) (c3 : LR) (R : Int → Int → Int → Int → LK → (Int × LK → Prop) → Prop) (c : Int) (rule : Int) (fromv : Int) (over : Int) (n : Int) (endv : Int) (X2 : Int × Int × LK → Prop) (n2 : Int) (v58 : Int) (l701012 : LK) (X3 : Int × Int × LK → Prop) : Prop :=
  (((decide (v58 < (c3.length : Int))) = true → (inIdx v58 c3.length ∧ (InR (((((c3.getD (c).toNat ((0 : Int), ([] : LI))).2).drop (rule).toNat).getD ((0 : Int)).toNat (0 : Int)) - c0) ∧ (((decide ((c3.getD (v58).toNat ((0 : Int), ([] : LI))).1 = (((((c3.getD (c).toNat ((0 : Int), ([] : LI))).2).drop (rule).toNat).getD ((0 : Int)).toNat (0 : Int)) - c0))) = true → R v58 (0 : Int) fromv endv l701012 (fun (ret77v : Int × LK) => VC25 n2 ret77v.1 (fun (ret78v : Int) => VCc66_k8 v58 X3 ret78v ret77v.2))) ∧ ((decide ((c3.getD (v58).toNat ((0 : Int), ([] : LI))).1 = (((((c3.getD (c).toNat ((0 : Int), ([] : LI))).2).drop (rule).toNat).getD ((0 : Int)).toNat (0 : Int)) - c0))) = false → VCc66_k8 v58 X3 n2 l701012))))) ∧ ((decide (v58 < (c3.length : Int))) = false → VCc66_k7 c3 R c rule fromv over n endv X2 n2 l701012))
def VCc66_l2 (c0 : Int) (c3 : LR) (c4 : LI) (R : Int → Int → Int → Int → LK → (Int × LK → Prop) → Prop) (c : Int) (rule : Int) (fromv : Int) (over : Int) (K : Int × LK → Prop) (n : Int) (endv : Int) (l70101 : LK) (X2 : Int × Int × LK → Prop) : Prop :=
  (((decide (endv < over)) = true → (inIdx (0 : Int) (((c3.getD (c).toNat ((0 : Int), ([] : LI))).2).drop (rule).toNat).length ∧ (((decide (((((c3.getD (c).toNat ((0 : Int), ([] : LI))).2).drop (rule).toNat).getD ((0 : Int)).toNat (0 : Int)) < c0)) = true → (InR (fromv + (1 : Int)) ∧ ((decide (endv = (fromv + (1 : Int)))) = true → inIdx fromv c4.length) ∧ ((((decide (endv = (fromv + (1 : Int)))) && (decide ((c4.getD (fromv).toNat (0 : Int)) = ((((c3.getD (c).toNat ((0 : Int), ([] : LI))).2).drop (rule).toNat).getD ((0 : Int)).toNat (0 : Int))))) = true → VCc66_k5 R c rule over n endv X2 (1 : Int) l70101) ∧ (((decide (endv = (fromv + (1 : Int)))) && (decide ((c4.getD (fromv).toNat (0 : Int)) = ((((c3.getD (c).toNat ((0 : Int), ([] : LI))).2).drop (rule).toNat).getD ((0 : Int)).toNat (0 : Int))))) = false → VCc66_k5 R c rule over n endv X2 (0 : Int) l70101)))) ∧ ((decide (((((c3.getD (c).toNat ((0 : Int), ([] : LI))).2).drop (rule).toNat).getD ((0 : Int)).toNat (0 : Int)) < c0)) = false → (((mget l70101 ((-1 : Int), (((((c3.getD (c).toNat ((0 : Int), ([] : LI))).2).drop (rule).toNat).getD ((0 : Int)).toNat (0 : Int)), (fromv, endv)))).isSome = true → VCc66_k5 R c rule over n endv X2 ((mget l70101 ((-1 : Int), (((((c3.getD (c).toNat ((0 : Int), ([] : LI))).2).drop (rule).toNat).getD ((0 : Int)).toNat (0 : Int)), (fromv, endv)))).getD (0 : Int)) l70101) ∧ ((mget l70101 ((-1 : Int), (((((c3.getD (c).toNat ((0 : Int), ([] : LI))).2).drop (rule).toNat).getD ((0 : Int)).toNat (0 : Int)), (fromv, endv)))).isSome = false → Loop (σ := Int × Int × LK) (fun s X => VCc66_l3 c0 c3 R c rule fromv over n endv X2 s.1 s.2.1 s.2.2 X) ((0 : Int), (0 : Int), l70101))))))) ∧ ((decide (endv < over)) = false → VCc66_k4 c rule fromv over K n l70101))
def VCc66 (c0 : Int) (c1 : Int) (c2 : Int) (c3 : LR) (c4 : LI) (R : Int → Int → Int → Int → LK → (Int × LK → Prop) → Prop) (c : Int) (rule : Int) (fromv : Int) (over : Int) (c5 : LK) (K : Int × LK → Prop) : Prop :=
  (inIdx c c3.length ∧ (0 ≤ rule ∧ rule ≤ (((c3.getD (c).toNat ((0 : Int), ([] : LI))).2).length : Int)) ∧ (InR (over - fromv) ∧ (((decide ((over - fromv) < ((((c3.getD (c).toNat ((0 : Int), ([] : LI))).2).drop (rule).toNat).length : Int))) = true → K ((0 : Int), c5)) ∧ ((decide ((over - fromv) < ((((c3.getD (c).toNat ((0 : Int), ([] : LI))).2).drop (rule).toNat).length : Int))) = false → (((decide (((((c3.getD (c).toNat ((0 : Int), ([] : LI))).2).drop (rule).toNat).length : Int) = (1 : Int))) = true → (inIdx (0 : Int) (((c3.getD (c).toNat ((0 : Int), ([] : LI))).2).drop (rule).toNat).length ∧ (((decide (((((c3.getD (c).toNat ((0 : Int), ([] : LI))).2).drop (rule).toNat).getD ((0 : Int)).toNat (0 : Int)) < c0)) = true → (InR (fromv + (1 : Int)) ∧ ((decide (over = (fromv + (1 : Int)))) = true → inIdx fromv c4.length) ∧ ((((decide (over = (fromv + (1 : Int)))) && (decide ((c4.getD (fromv).toNat (0 : Int)) = ((((c3.getD (c).toNat ((0 : Int), ([] : LI))).2).drop (rule).toNat).getD ((0 : Int)).toNat (0 : Int))))) = true → VCc66_k1 K (1 : Int) c5) ∧ (((decide (over = (fromv + (1 : Int)))) && (decide ((c4.getD (fromv).toNat (0 : Int)) = ((((c3.getD (c).toNat ((0 : Int), ([] : LI))).2).drop (rule).toNat).getD ((0 : Int)).toNat (0 : Int))))) = false → VCc66_k1 K (0 : Int) c5)))) ∧ ((decide (((((c3.getD (c).toNat ((0 : Int), ([] : LI))).2).drop (rule).toNat).getD ((0 : Int)).toNat (0 : Int)) < c0)) = false → (((mget c5 ((-1 : Int), (((((c3.getD (c).toNat ((0 : Int), ([] : LI))).2).drop (rule).toNat).getD ((0 : Int)).toNat (0 : Int)), (fromv, over)))).isSome = true → VCc66_k1 K ((mget c5 ((-1 : Int), (((((c3.getD (c).toNat ((0 : Int), ([] : LI))).2).drop (rule).toNat).getD ((0 : Int)).toNat (0 : Int)), (fromv, over)))).getD (0 : Int)) c5) ∧ ((mget c5 ((-1 : Int), (((((c3.getD (c).toNat ((0 : Int), ([] : LI))).2).drop (rule).toNat).getD ((0 : Int)).toNat (0 : Int)), (fromv, over)))).isSome = false → Loop (σ := Int × Int × LK) (fun s X => VCc66_l1 c0 c3 R c rule fromv over K s.1 s.2.1 s.2.2 X) ((0 : Int), (0 : Int), c5))))))) ∧ ((decide (((((c3.getD (c).toNat ((0 : Int), ([] : LI))).2).drop (rule).toNat).length : Int) = (1 : Int))) = false → (((mget c5 (c, (rule, (fromv, over)))).isSome = true → K (((mget c5 (c, (rule, (fromv, over)))).getD (0 : Int)), c5)) ∧ ((mget c5 (c, (rule, (fromv, over)))).isSome = false → (InR (fromv + (1 : Int)) ∧ Loop (σ := Int × Int × LK) (fun s X => VCc66_l2 c0 c3 c4 R c rule fromv over K s.1 s.2.1 s.2.2 X) ((0 : Int), (fromv + (1 : Int)), c5))))))))))
set_option maxHeartbeats 4000000 in
theorem linkc66 (c0 : Int) (c1 : Int) (c2 : Int) (c3 : LR) (c4 : LI) (R : Int → Int → Int → Int → LK → (Int × LK → Prop) → Prop) (hR : ∀ (c : Int) (rule : Int) (fromv : Int) (over : Int) (c5 : LK) (K : Int × LK → Prop), R c rule fromv over c5 K → LCalls Try.prog 66 [70100, 70101] [70100] [e9_0 c0 c1 c2 c3 c4, e9_8 c5] [.c (.ptr 70100 0), .c (.pI c), .c (.pI rule), .agg [.pI fromv, .pI over]] (fun av hp' => ∃ y : Int × LK, av = .v (.c (.pI y.1)) ∧ hp' = [e9_0 c0 c1 c2 c3 c4, (70101, [], .dict (.pr tI t3) tI y.2)] ∧ K y)) (c : Int) (rule : Int) (fromv : Int) (over : Int) (c5 : LK) (K : Int × LK → Prop) (h : VCc66 c0 c1 c2 c3 c4 R c rule fromv over c5 K) : LCalls Try.prog 66 [70100, 70101] [70100] [e9_0 c0 c1 c2 c3 c4, e9_8 c5] [.c (.ptr 70100 0), .c (.pI c), .c (.pI rule), .agg [.pI fromv, .pI over]] (fun av hp' => ∃ y : Int × LK, av = .v (.c (.pI y.1)) ∧ hp' = [e9_0 c0 c1 c2 c3 c4, (70101, [], .dict (.pr tI t3) tI y.2)] ∧ K y) := by
 refine lcalls_of_aw [70100, 70101] [70100] [.t 8] Try.func66 rfl rfl (by kernel_rfl) (by kernel_rfl) (by kernel_rfl) ?_
 refine aw_conv [] (st' := (⟨99, [e9_12, sI 1 c, sI 2 rule, sA 3 [.pI fromv, .pI over], e9_18], [e9_0 c0 c1 c2 c3 c4, e9_8 c5]⟩ : St)) (by kernel_rfl) ?_
 unfold VCc66 at h
 refine sr ?_
 refine rqT 2 ⟨99, [e9_12, sI 1 c, sI 2 rule, e9_29, e9_18], [e9_28 fromv over, e9_0 c0 c1 c2 c3 c4, e9_8 c5]⟩ (by kernel_rfl) ?_
 refine nsr ?_
 obtain ⟨o1, o2, h⟩ := h
 refine rq 12 (ob := (Ts 6 (inIdx c c3.length ∧ Ts 3 ((0 ≤ rule ∧ rule ≤ (((c3.getD (c).toNat ((0 : Int), ([] : LI))).2).length : Int)) ∧ Ts 1 True)))) (st' := (⟨99, [e9_12, sI 1 c, sI 2 rule, e9_29, e9_6 c3 c rule, e9_18], [e9_28 fromv over, e9_0 c0 c1 c2 c3 c4, e9_8 c5]⟩ : St)) (by kernel_rfl) (tsI 6 (⟨o1, tsI 3 ⟨o2, tsI 1 trivial⟩⟩)) ?_
 refine nn ?_
 refine aw_seq ?_
 refine sr ?_
 obtain ⟨o1, h⟩ := h
 refine rq 8 (ob := (Ts 4 (InR (over - fromv) ∧ Ts 3 True))) (st' := (⟨99, [e9_12, sI 1 c, sI 2 rule, e9_29, e9_6 c3 c rule, sB 34 (decide ((over - fromv) < ((((c3.getD (c).toNat ((0 : Int), ([] : LI))).2).drop (rule).toNat).length : Int))), e9_18], [e9_28 fromv over, e9_0 c0 c1 c2 c3 c4, e9_8 c5]⟩ : St)) (by kernel_rfl) (tsI 4 ⟨o1, tsI 3 trivial⟩) ?_
 refine nn ?_
 refine aw_cond (b := (decide ((over - fromv) < ((((c3.getD (c).toNat ((0 : Int), ([] : LI))).2).drop (rule).toNat).length : Int)))) (by kernel_rfl) (fun hb => ?_) (fun hb => ?_)
 ·have h := h.1 hb
  refine srn 1 ⟨99, [sI 8 (0 : Int), e9_18], [e9_0 c0 c1 c2 c3 c4, e9_8 c5]⟩ (by kernel_rfl) rfl ?_
  refine aw_ret ?_
  refine thenQ_r ?_
  exact lret_r (σ := Int × LK) (A := fun y => .v (.c (.pI y.1))) (H := fun y => [e9_0 c0 c1 c2 c3 c4, (70101, [], .dict (.pr tI t3) tI y.2)]) (ob := True) ((0 : Int), c5) (by kernel_rfl) trivial rfl (by kernel_rfl) (by kernel_rfl) (by kernel_rfl) h
 ·have h := h.2 hb
  refine aw_skip ?_
  refine thenQ_n ?_
  refine aw_seq ?_
  refine srn 3 ⟨99, [e9_12, sI 1 c, sI 2 rule, e9_29, e9_6 c3 c rule, e9_32 c3 c rule, e9_18], [e9_28 fromv over, e9_0 c0 c1 c2 c3 c4, e9_8 c5]⟩ (by kernel_rfl) rfl ?_
  refine aw_cond (b := (decide (((((c3.getD (c).toNat ((0 : Int), ([] : LI))).2).drop (rule).toNat).length : Int) = (1 : Int)))) (by kernel_rfl) (fun hb => ?_) (fun hb => ?_)
  ·have h := h.1 hb
   refine aw_seq ?_
   refine aw_conv [.ren 7 30000] (st' := (⟨99, [e9_12, sI 1 c, sI 2 rule, sp 7 30000, e9_6 c3 c rule, e9_32 c3 c rule, e9_18], [hB 30000 [.pI fromv, .pI over], e9_0 c0 c1 c2 c3 c4, e9_8 c5]⟩ : St)) (by kernel_rfl) ?_
   refine awd_begin [70100, 70101] (by kernel_rfl) ?_
   obtain ⟨o1, h⟩ := h
   refine drq (by kernel_rfl) [0, 1, 2, 3, 4] (ob := (Ts 2 (inIdx (0 : Int) (((c3.getD (c).toNat ((0 : Int), ([] : LI))).2).drop (rule).toNat).length ∧ Ts 2 True))) (done' := [4, 3, 2, 1, 0]) (st' := (⟨99, [sp 38 70100, sI 41 ((((c3.getD (c).toNat ((0 : Int), ([] : LI))).2).drop (rule).toNat).getD ((0 : Int)).toNat (0 : Int)), sA 42 [.pI fromv, .pI over], e9_18], [e9_0 c0 c1 c2 c3 c4, e9_8 c5]⟩ : St)) (by kernel_rfl) (tsI 2 ⟨o1, tsI 2 trivial⟩) ?_
   refine awd_one (i := 5) (by kernel_rfl) ?_
   refine adop_inlr [.t 6] [.c (.ptr 70100 0), .c (.pI ((((c3.getD (c).toNat ((0 : Int), ([] : LI))).2).drop (rule).toNat).getD ((0 : Int)).toNat (0 : Int))), .agg [.pI fromv, .pI over]] [] rfl rfl rfl (by kernel_rfl) rfl (by kernel_rfl) Try.call45 (by kernel_rfl) (by kernel_rfl) Try.func45 rfl rfl (by kernel_rfl) ?_
   refine aw_conv [] (st' := (⟨87, [e9_12, e9_1 c3 c rule, sA 2 [.pI fromv, .pI over], sp 125 70100, sI 128 ((((c3.getD (c).toNat ((0 : Int), ([] : LI))).2).drop (rule).toNat).getD ((0 : Int)).toNat (0 : Int)), sA 129 [.pI fromv, .pI over], e9_13], [e9_0 c0 c1 c2 c3 c4, e9_8 c5]⟩ : St)) (by kernel_rfl) ?_
   refine withJoinR (σ := Int × LK) (fun s => (⟨87, [sI 6 s.1, e9_13], [e9_0 c0 c1 c2 c3 c4, (70101, [], .dict (.pr tI t3) tI s.2)]⟩ : St)) (fun s => VCc66_k1 K s.1 s.2) (fun s h => ?_) (fun rest1 => ?_)
   ·obtain ⟨v6, l70101⟩ := s
    have h : VCc66_k1 K v6 l70101 := h
    unfold VCc66_k1 at h
    refine inlR_n (ob := True) (.v (.c (.pI v6))) (by kernel_rfl) trivial rfl ?_
    refine dpr (st' := (⟨99, [sI 43 v6, e9_18], [e9_0 c0 c1 c2 c3 c4, e9_7 l70101]⟩ : St)) (by kernel_rfl) ?_
    refine drq (by kernel_rfl) [6] (ob := (Ts 1 True)) (done' := [6, 5, 4, 3, 2, 1, 0]) (st' := (⟨99, [sI 8 v6, e9_18], [e9_0 c0 c1 c2 c3 c4, e9_7 l70101]⟩ : St)) (by kernel_rfl) (tsI 1 trivial) ?_
    refine awd_done (by kernel_rfl) ?_
    refine thenQ_n ?_
    refine aw_ret ?_
    refine thenQ_r ?_
    exact lret_r (σ := Int × LK) (A := fun y => .v (.c (.pI y.1))) (H := fun y => [e9_0 c0 c1 c2 c3 c4, (70101, [], .dict (.pr tI t3) tI y.2)]) (ob := True) (v6, l70101) (by kernel_rfl) trivial rfl (by kernel_rfl) (by kernel_rfl) (by kernel_rfl) h
   ·refine srn 2 ⟨87, [e9_12, e9_1 c3 c rule, sp 5 5, e9_13], [e9_16 fromv over, e9_0 c0 c1 c2 c3 c4, e9_8 c5]⟩ (by kernel_rfl) rfl ?_
    refine aw_seq ?_
    refine srn 7 ⟨87, [e9_12, e9_1 c3 c rule, sp 5 5, e9_30 c3 c rule c0, e9_13], [e9_16 fromv over, e9_0 c0 c1 c2 c3 c4, e9_8 c5]⟩ (by kernel_rfl) rfl ?_
    refine aw_cond (b := (decide (((((c3.getD (c).toNat ((0 : Int), ([] : LI))).2).drop (rule).toNat).getD ((0 : Int)).toNat (0 : Int)) < c0))) (by kernel_rfl) (fun hb => ?_) (fun hb => ?_)
    ·have h := h.1 hb
     refine aw_seq ?_
     refine aw_seq ?_
     refine awd_begin [] (by kernel_rfl) ?_
     obtain ⟨o1, o2, h⟩ := h
     refine drq (by kernel_rfl) e9_n0 (ob := (Ts 4 (InR (fromv + (1 : Int)) ∧ Ts 2 (Ti 6 ((decide (over = (fromv + (1 : Int)))) = true → True) (((decide (over = (fromv + (1 : Int)))) = true → inIdx fromv c4.length) ∧ Ti 3 ((decide (over = (fromv + (1 : Int)))) = true → True) (Ts 1 True)))))) (done' := e9_n1) (st' := (⟨87, [sB 37 ((decide (over = (fromv + (1 : Int)))) && (decide ((c4.getD (fromv).toNat (0 : Int)) = ((((c3.getD (c).toNat ((0 : Int), ([] : LI))).2).drop (rule).toNat).getD ((0 : Int)).toNat (0 : Int))))), e9_13], [e9_0 c0 c1 c2 c3 c4, e9_8 c5]⟩ : St)) (by kernel_rfl) (tsI 4 (⟨o1, tsI 2 (tiI 6 (fun _ => trivial) ⟨o2, tiI 3 (fun _ => trivial) (tsI 1 trivial)⟩)⟩)) ?_
     refine awd_done (by kernel_rfl) ?_
     refine thenQ_n ?_
     refine aw_cond (b := ((decide (over = (fromv + (1 : Int)))) && (decide ((c4.getD (fromv).toNat (0 : Int)) = ((((c3.getD (c).toNat ((0 : Int), ([] : LI))).2).drop (rule).toNat).getD ((0 : Int)).toNat (0 : Int)))))) (by kernel_rfl) (fun hb => ?_) (fun hb => ?_)
     ·have h := h.1 hb
      refine srn 1 ⟨87, [sI 6 (1 : Int), e9_13], [e9_0 c0 c1 c2 c3 c4, e9_8 c5]⟩ (by kernel_rfl) rfl ?_
      refine aw_ret ?_
      refine thenQ_r ?_
      refine thenQ_r ?_
      exact rest1 ((1 : Int), c5) h
     ·have h := h.2 hb
      refine aw_skip ?_
      refine thenQ_n ?_
      refine srn 1 ⟨87, [sI 6 (0 : Int), e9_13], [e9_0 c0 c1 c2 c3 c4, e9_8 c5]⟩ (by kernel_rfl) rfl ?_
      refine aw_ret ?_
      refine thenQ_r ?_
      exact rest1 ((0 : Int), c5) h
    ·have h := h.2 hb
     refine aw_skip ?_
     refine thenQ_n ?_
     refine srn 5 ⟨87, [e9_12, e9_1 c3 c rule, sp 5 5, e9_29, e9_13], [e9_16 fromv over, e9_2 c3 c rule fromv over, e9_0 c0 c1 c2 c3 c4, e9_8 c5]⟩ (by kernel_rfl) rfl ?_
     refine aw_seq ?_
     refine aw_seq ?_
     refine awd_begin [] (by kernel_rfl) ?_
     refine drq (by kernel_rfl) e9_n2 (ob := (Ts 11 True)) (done' := e9_n3) (st' := (⟨87, [e9_12, e9_1 c3 c rule, sp 5 5, e9_29, e9_26 c5 c3 c rule fromv over, sB 9 ((mget c5 ((-1 : Int), (((((c3.getD (c).toNat ((0 : Int), ([] : LI))).2).drop (rule).toNat).getD ((0 : Int)).toNat (0 : Int)), (fromv, over)))).isSome), e9_13], [e9_16 fromv over, e9_2 c3 c rule fromv over, e9_0 c0 c1 c2 c3 c4, e9_8 c5]⟩ : St)) (by kernel_rfl) (tsI 11 trivial) ?_
     refine awd_done (by kernel_rfl) ?_
     refine thenQ_n ?_
     refine srn 1 ⟨87, [e9_12, e9_1 c3 c rule, sp 5 5, e9_29, e9_26 c5 c3 c rule fromv over, sB 50 ((mget c5 ((-1 : Int), (((((c3.getD (c).toNat ((0 : Int), ([] : LI))).2).drop (rule).toNat).getD ((0 : Int)).toNat (0 : Int)), (fromv, over)))).isSome), e9_13], [e9_16 fromv over, e9_2 c3 c rule fromv over, e9_0 c0 c1 c2 c3 c4, e9_8 c5]⟩ (by kernel_rfl) rfl ?_
     refine aw_cond (b := (mget c5 ((-1 : Int), (((((c3.getD (c).toNat ((0 : Int), ([] : LI))).2).drop (rule).toNat).getD ((0 : Int)).toNat (0 : Int)), (fromv, over)))).isSome) (by kernel_rfl) (fun hb => ?_) (fun hb => ?_)
     ·have h := h.1 hb
      refine srn 2 ⟨87, [sI 6 ((mget c5 ((-1 : Int), (((((c3.getD (c).toNat ((0 : Int), ([] : LI))).2).drop (rule).toNat).getD ((0 : Int)).toNat (0 : Int)), (fromv, over)))).getD (0 : Int)), e9_13], [e9_0 c0 c1 c2 c3 c4, e9_8 c5]⟩ (by kernel_rfl) rfl ?_
      refine aw_ret ?_
      refine thenQ_r ?_
      exact rest1 (((mget c5 ((-1 : Int), (((((c3.getD (c).toNat ((0 : Int), ([] : LI))).2).drop (rule).toNat).getD ((0 : Int)).toNat (0 : Int)), (fromv, over)))).getD (0 : Int)), c5) h
     ·have h := h.2 hb
      refine aw_skip ?_
      refine thenQ_n ?_
      refine srn 1 ⟨87, [e9_12, e9_1 c3 c rule, sp 5 5, e9_29, sI 10 (0 : Int), e9_13], [e9_16 fromv over, e9_2 c3 c rule fromv over, e9_0 c0 c1 c2 c3 c4, e9_8 c5]⟩ (by kernel_rfl) rfl ?_
      refine aw_seq ?_
      refine srn 7 ⟨87, [e9_12, e9_1 c3 c rule, sp 5 5, e9_29, sI 10 (0 : Int), e9_9 c3, e9_15 c3, sI 58 (0 : Int), e9_13], [e9_16 fromv over, e9_2 c3 c rule fromv over, e9_0 c0 c1 c2 c3 c4, e9_8 c5]⟩ (by kernel_rfl) rfl ?_
      refine withJoin (σ := Int × LK) (fun s => (⟨87, [e9_12, e9_29, sI 10 s.1, e9_13], [e9_2 c3 c rule fromv over, e9_0 c0 c1 c2 c3 c4, (70101, [], .dict (.pr tI t3) tI s.2)]⟩ : St)) (fun s => VCc66_k2 c3 c rule fromv over K s.1 s.2) (fun s h => ?_) (fun rest2 => ?_)
      ·obtain ⟨n, l70101⟩ := s
       have h : VCc66_k2 c3 c rule fromv over K n l70101 := h
       unfold VCc66_k2 at h
       refine thenQ_n ?_
       refine aw_seq ?_
       refine awd_begin [70101] (by kernel_rfl) ?_
       refine drq (by kernel_rfl) [0, 1, 2, 3, 4, 5] (ob := (Ts 6 True)) (done' := [5, 4, 3, 2, 1, 0]) (st' := (⟨87, [sI 10 n, s1 83 (.own 70101), sA 84 [.pI (-1 : Int), .pI ((((c3.getD (c).toNat ((0 : Int), ([] : LI))).2).drop (rule).toNat).getD ((0 : Int)).toNat (0 : Int)), .pI fromv, .pI over], sI 85 n, e9_13], [e9_0 c0 c1 c2 c3 c4, e9_7 l70101]⟩ : St)) (by kernel_rfl) (tsI 6 trivial) ?_
       refine awd_one (i := 6) (by kernel_rfl) ?_
       refine dsq (ob := True) (st' := (⟨87, [sI 10 n, e9_13], [e9_0 c0 c1 c2 c3 c4, (70101, [], .dict (.pr tI t3) tI (mset l70101 ((-1 : Int), (((((c3.getD (c).toNat ((0 : Int), ([] : LI))).2).drop (rule).toNat).getD ((0 : Int)).toNat (0 : Int)), (fromv, over))) n))]⟩ : St)) rfl (by kernel_rfl) trivial ?_
       refine awd_done (by kernel_rfl) ?_
       refine thenQ_n ?_
       refine srn 2 ⟨87, [sI 6 n, e9_13], [e9_0 c0 c1 c2 c3 c4, (70101, [], .dict (.pr tI t3) tI (mset l70101 ((-1 : Int), (((((c3.getD (c).toNat ((0 : Int), ([] : LI))).2).drop (rule).toNat).getD ((0 : Int)).toNat (0 : Int)), (fromv, over))) n))]⟩ (by kernel_rfl) rfl ?_
       refine aw_ret ?_
       exact rest1 (n, (mset l70101 ((-1 : Int), (((((c3.getD (c).toNat ((0 : Int), ([] : LI))).2).drop (rule).toNat).getD ((0 : Int)).toNat (0 : Int)), (fromv, over))) n)) h
      ·refine aw_block ?_
       refine aw_loop (σ := Int × Int × LK) (fun s => (⟨87, [e9_12, e9_1 c3 c rule, sp 5 5, e9_29, sI 10 s.1, e9_9 c3, e9_15 c3, sI 58 s.2.1, e9_13], [e9_16 fromv over, e9_2 c3 c rule fromv over, e9_0 c0 c1 c2 c3 c4, (70101, [], .dict (.pr tI t3) tI s.2.2)]⟩ : St)) (fun s X => VCc66_l1 c0 c3 R c rule fromv over K s.1 s.2.1 s.2.2 X) (s0 := ((0 : Int), (0 : Int), c5)) (fun s X1 h => ?_) h
       obtain ⟨n, v58, l70101⟩ := s
       have h : VCc66_l1 c0 c3 R c rule fromv over K n v58 l70101 X1 := h
       unfold VCc66_l1 at h
       refine srn 1 ⟨87, [e9_12, e9_1 c3 c rule, sp 5 5, e9_29, sI 10 n, e9_9 c3, e9_15 c3, sI 58 v58, sB 59 (decide (v58 < (c3.length : Int))), e9_13], [e9_16 fromv over, e9_2 c3 c rule fromv over, e9_0 c0 c1 c2 c3 c4, e9_7 l70101]⟩ (by kernel_rfl) rfl ?_
       refine aw_seq ?_
       refine aw_cond (b := (decide (v58 < (c3.length : Int)))) (by kernel_rfl) (fun hb => ?_) (fun hb => ?_)
       ·have h := h.1 hb
        refine aw_skip ?_
        refine thenQ_n ?_
        refine aw_seq ?_
        refine aw_block ?_
        refine sr ?_
        obtain ⟨o1, h⟩ := h
        refine rq 6 (ob := (Ts 1 (inIdx v58 c3.length ∧ Ts 4 True))) (st' := (⟨87, [e9_12, e9_1 c3 c rule, sp 5 5, e9_29, sI 10 n, sI 11 v58, sp 12 12, e9_9 c3, e9_15 c3, sI 58 v58, e9_13], [e9_16 fromv over, e9_2 c3 c rule fromv over, e9_31 c3 v58, e9_0 c0 c1 c2 c3 c4, e9_7 l70101]⟩ : St)) (by kernel_rfl) (tsI 1 ⟨o1, tsI 4 trivial⟩) ?_
        refine nn ?_
        refine aw_seq ?_
        refine awd_begin [] (by kernel_rfl) ?_
        obtain ⟨o1, h⟩ := h
        refine drq (by kernel_rfl) [0, 1, 2, 3, 4, 5, 6, 7, 8, 9] (ob := (Ts 8 (InR (((((c3.getD (c).toNat ((0 : Int), ([] : LI))).2).drop (rule).toNat).getD ((0 : Int)).toNat (0 : Int)) - c0) ∧ Ts 1 True))) (done' := [9, 8, 7, 6, 5, 4, 3, 2, 1, 0]) (st' := (⟨87, [e9_12, e9_1 c3 c rule, sp 5 5, e9_29, sI 10 n, sI 11 v58, e9_9 c3, e9_15 c3, sI 58 v58, e9_22 c3 v58 c rule c0, e9_13], [e9_16 fromv over, e9_2 c3 c rule fromv over, e9_0 c0 c1 c2 c3 c4, e9_7 l70101]⟩ : St)) (by kernel_rfl) (tsI 8 ⟨o1, tsI 1 trivial⟩) ?_
        refine awd_done (by kernel_rfl) ?_
        refine thenQ_n ?_
        refine withJoin (σ := Int × LK) (fun s => (⟨87, [e9_12, e9_1 c3 c rule, sp 5 5, e9_29, sI 10 s.1, e9_9 c3, e9_15 c3, sI 58 v58, e9_13], [e9_16 fromv over, e9_2 c3 c rule fromv over, e9_0 c0 c1 c2 c3 c4, (70101, [], .dict (.pr tI t3) tI s.2)]⟩ : St)) (fun s => VCc66_k3 v58 X1 s.1 s.2) (fun s h => ?_) (fun rest3 => ?_)
        ·obtain ⟨n2, l701012⟩ := s
         have h : VCc66_k3 v58 X1 n2 l701012 := h
         unfold VCc66_k3 at h
         refine blockQ_n ?_
         refine thenQ_n ?_
         refine aw_region ?_
         obtain ⟨o1, h⟩ := h
         refine rq 2 (ob := (InR (v58 + (1 : Int)) ∧ Ts 1 True)) (st' := (⟨87, [e9_12, e9_1 c3 c rule, sp 5 5, e9_29, sI 10 n2, e9_9 c3, e9_15 c3, sI 58 (v58 + (1 : Int)), e9_13], [e9_16 fromv over, e9_2 c3 c rule fromv over, e9_0 c0 c1 c2 c3 c4, e9_11 l701012]⟩ : St)) (by kernel_rfl) (⟨o1, tsI 1 trivial⟩) ?_
         refine awl_nil ?_
         exact thenQ_n ⟨(n2, (v58 + (1 : Int)), l701012), rfl, h⟩
        ·refine aw_cond (b := (decide ((c3.getD (v58).toNat ((0 : Int), ([] : LI))).1 = (((((c3.getD (c).toNat ((0 : Int), ([] : LI))).2).drop (rule).toNat).getD ((0 : Int)).toNat (0 : Int)) - c0)))) (by kernel_rfl) (fun hb => ?_) (fun hb => ?_)
         ·have h := h.1 hb
          refine aw_region ?_
          refine rqT 4 ⟨87, [e9_12, e9_1 c3 c rule, sp 5 5, e9_29, e9_9 c3, e9_15 c3, sI 58 v58, sI 73 n, sp 74 70100, sI 75 v58, sA 76 [.pI fromv, .pI over], e9_13], [e9_16 fromv over, e9_2 c3 c rule fromv over, e9_0 c0 c1 c2 c3 c4, e9_7 l70101]⟩ (by kernel_rfl) ?_
          refine awl_lcall (σ := Int × LK) [70100, 70101] [70100] [.c (.ptr 70100 0), .c (.pI v58), .c (.pI (0 : Int)), .agg [.pI fromv, .pI over]] [] (fun ret77v => .v (.c (.pI ret77v.1))) (fun ret77v => [e9_0 c0 c1 c2 c3 c4, e9_14 ret77v]) (_) [e9_0 c0 c1 c2 c3 c4, e9_7 l70101] (fun ret77v => (⟨87, [sI 77 ret77v.1, e9_12, e9_1 c3 c rule, sp 5 5, e9_29, e9_9 c3, e9_15 c3, sI 58 v58, sI 73 n, sp 74 70100, sI 75 v58, sA 76 [.pI fromv, .pI over], e9_13], [e9_0 c0 c1 c2 c3 c4, e9_14 ret77v, e9_16 fromv over, e9_2 c3 c rule fromv over]⟩ : St)) rfl rfl (by kernel_rfl) rfl (by kernel_rfl) Try.call66 (by kernel_rfl) (by kernel_rfl) (by kernel_rfl) (fun _ _ => rfl) (fun _ => by kernel_rfl) (hR v58 (0 : Int) fromv over l70101 _ h) (fun ret77v h => ?_)
          refine lpr (st' := (⟨87, [e9_12, e9_1 c3 c rule, sp 5 5, e9_29, e9_9 c3, e9_15 c3, sI 58 v58, sI 73 n, sI 77 ret77v.1, e9_13], [e9_16 fromv over, e9_2 c3 c rule fromv over, e9_0 c0 c1 c2 c3 c4, e9_14 ret77v]⟩ : St)) (by kernel_rfl) ?_
          refine lcq (d := 78) [.d tI, .d tI] (fun ret78v => (⟨87, [e9_12, e9_1 c3 c rule, sp 5 5, e9_29, e9_9 c3, e9_15 c3, sI 58 v58, sI 78 ret78v, e9_13], [e9_16 fromv over, e9_2 c3 c rule fromv over, e9_0 c0 c1 c2 c3 c4, e9_14 ret77v]⟩ : St)) (by kernel_rfl) Try.call25 (fun _ => by kernel_rfl) (link25 n ret77v.1 _ h) (fun ret78v h => ?_)
          refine rqT 1 ⟨87, [e9_12, e9_1 c3 c rule, sp 5 5, e9_29, sI 10 ret78v, e9_9 c3, e9_15 c3, sI 58 v58, e9_13], [e9_16 fromv over, e9_2 c3 c rule fromv over, e9_0 c0 c1 c2 c3 c4, e9_14 ret77v]⟩ (by kernel_rfl) ?_
          refine awl_nil ?_
          exact rest3 (ret78v, ret77v.2) h
         ·have h := h.2 hb
          refine cpr (st' := (⟨87, [e9_12, e9_1 c3 c rule, sp 5 5, e9_29, sI 10 n, e9_9 c3, e9_15 c3, sI 58 v58, e9_13], [e9_16 fromv over, e9_2 c3 c rule fromv over, e9_0 c0 c1 c2 c3 c4, e9_7 l70101]⟩ : St)) (by kernel_rfl) ?_
          refine aw_skip ?_
          exact rest3 (n, l70101) h
       ·have h := h.2 hb
        refine cpr (st' := (⟨87, [e9_12, e9_29, sI 10 n, e9_13], [e9_2 c3 c rule fromv over, e9_0 c0 c1 c2 c3 c4, e9_7 l70101]⟩ : St)) (by kernel_rfl) ?_
        refine aw_exit ?_
        refine thenQ_x ?_
        refine thenQ_x ?_
        refine blockQ_hit ?_
        exact rest2 (n, l70101) h
  ·have h := h.2 hb
   refine aw_skip ?_
   refine thenQ_n ?_
   refine srn 6 ⟨99, [e9_12, sI 1 c, sI 2 rule, e9_29, e9_6 c3 c rule, sp 10 10, e9_18], [e9_28 fromv over, e9_19 c rule fromv over, e9_0 c0 c1 c2 c3 c4, e9_8 c5]⟩ (by kernel_rfl) rfl ?_
   refine aw_seq ?_
   refine aw_seq ?_
   refine awd_begin [] (by kernel_rfl) ?_
   refine drq (by kernel_rfl) e9_n2 (ob := (Ts 11 True)) (done' := e9_n3) (st' := (⟨99, [e9_12, sI 1 c, sI 2 rule, e9_29, e9_6 c3 c rule, sp 10 10, sI 11 ((mget c5 (c, (rule, (fromv, over)))).getD (0 : Int)), sB 12 ((mget c5 (c, (rule, (fromv, over)))).isSome), e9_18], [e9_28 fromv over, e9_19 c rule fromv over, e9_0 c0 c1 c2 c3 c4, e9_8 c5]⟩ : St)) (by kernel_rfl) (tsI 11 trivial) ?_
   refine awd_done (by kernel_rfl) ?_
   refine thenQ_n ?_
   refine srn 1 ⟨99, [e9_12, sI 1 c, sI 2 rule, e9_29, e9_6 c3 c rule, sp 10 10, sI 11 ((mget c5 (c, (rule, (fromv, over)))).getD (0 : Int)), sB 57 ((mget c5 (c, (rule, (fromv, over)))).isSome), e9_18], [e9_28 fromv over, e9_19 c rule fromv over, e9_0 c0 c1 c2 c3 c4, e9_8 c5]⟩ (by kernel_rfl) rfl ?_
   refine aw_cond (b := (mget c5 (c, (rule, (fromv, over)))).isSome) (by kernel_rfl) (fun hb => ?_) (fun hb => ?_)
   ·have h := h.1 hb
    refine srn 2 ⟨99, [sI 8 ((mget c5 (c, (rule, (fromv, over)))).getD (0 : Int)), e9_18], [e9_0 c0 c1 c2 c3 c4, e9_8 c5]⟩ (by kernel_rfl) rfl ?_
    refine aw_ret ?_
    refine thenQ_r ?_
    exact lret_r (σ := Int × LK) (A := fun y => .v (.c (.pI y.1))) (H := fun y => [e9_0 c0 c1 c2 c3 c4, (70101, [], .dict (.pr tI t3) tI y.2)]) (ob := True) (((mget c5 (c, (rule, (fromv, over)))).getD (0 : Int)), c5) (by kernel_rfl) trivial rfl (by kernel_rfl) (by kernel_rfl) (by kernel_rfl) h
   ·have h := h.2 hb
    refine aw_skip ?_
    refine thenQ_n ?_
    refine srn 1 ⟨99, [e9_12, sI 1 c, sI 2 rule, e9_29, e9_6 c3 c rule, sp 10 10, sI 13 (0 : Int), e9_18], [e9_28 fromv over, e9_19 c rule fromv over, e9_0 c0 c1 c2 c3 c4, e9_8 c5]⟩ (by kernel_rfl) rfl ?_
    refine aw_seq ?_
    refine sr ?_
    obtain ⟨o1, h⟩ := h
    refine rq 4 (ob := (Ts 2 (InR (fromv + (1 : Int)) ∧ Ts 1 True))) (st' := (⟨99, [e9_12, sI 1 c, sI 2 rule, e9_29, e9_6 c3 c rule, sp 10 10, sI 13 (0 : Int), sI 14 (fromv + (1 : Int)), e9_18], [e9_28 fromv over, e9_19 c rule fromv over, e9_0 c0 c1 c2 c3 c4, e9_8 c5]⟩ : St)) (by kernel_rfl) (tsI 2 ⟨o1, tsI 1 trivial⟩) ?_
    refine nn ?_
    refine withJoin (σ := Int × LK) (fun s => (⟨99, [e9_12, sp 10 10, sI 13 s.1, e9_18], [e9_19 c rule fromv over, e9_0 c0 c1 c2 c3 c4, (70101, [], .dict (.pr tI t3) tI s.2)]⟩ : St)) (fun s => VCc66_k4 c rule fromv over K s.1 s.2) (fun s h => ?_) (fun rest4 => ?_)
    ·obtain ⟨n, l70101⟩ := s
     have h : VCc66_k4 c rule fromv over K n l70101 := h
     unfold VCc66_k4 at h
     refine thenQ_n ?_
     refine aw_seq ?_
     refine awd_begin [70101] (by kernel_rfl) ?_
     refine drq (by kernel_rfl) [0, 1, 2, 3, 4, 5] (ob := (Ts 6 True)) (done' := [5, 4, 3, 2, 1, 0]) (st' := (⟨99, [sI 13 n, s1 95 (.own 70101), sA 96 [.pI c, .pI rule, .pI fromv, .pI over], sI 97 n, e9_18], [e9_0 c0 c1 c2 c3 c4, e9_7 l70101]⟩ : St)) (by kernel_rfl) (tsI 6 trivial) ?_
     refine awd_one (i := 6) (by kernel_rfl) ?_
     refine dsq (ob := True) (st' := (⟨99, [sI 13 n, e9_18], [e9_0 c0 c1 c2 c3 c4, (70101, [], .dict (.pr tI t3) tI (mset l70101 (c, (rule, (fromv, over))) n))]⟩ : St)) rfl (by kernel_rfl) trivial ?_
     refine awd_done (by kernel_rfl) ?_
     refine thenQ_n ?_
     refine srn 2 ⟨99, [sI 8 n, e9_18], [e9_0 c0 c1 c2 c3 c4, (70101, [], .dict (.pr tI t3) tI (mset l70101 (c, (rule, (fromv, over))) n))]⟩ (by kernel_rfl) rfl ?_
     refine aw_ret ?_
     exact lret_r (σ := Int × LK) (A := fun y => .v (.c (.pI y.1))) (H := fun y => [e9_0 c0 c1 c2 c3 c4, (70101, [], .dict (.pr tI t3) tI y.2)]) (ob := True) (n, (mset l70101 (c, (rule, (fromv, over))) n)) (by kernel_rfl) trivial rfl (by kernel_rfl) (by kernel_rfl) (by kernel_rfl) h
    ·refine aw_block ?_
     refine aw_loop (σ := Int × Int × LK) (fun s => (⟨99, [e9_12, sI 1 c, sI 2 rule, e9_29, e9_6 c3 c rule, sp 10 10, sI 13 s.1, sI 14 s.2.1, e9_18], [e9_28 fromv over, e9_19 c rule fromv over, e9_0 c0 c1 c2 c3 c4, (70101, [], .dict (.pr tI t3) tI s.2.2)]⟩ : St)) (fun s X => VCc66_l2 c0 c3 c4 R c rule fromv over K s.1 s.2.1 s.2.2 X) (s0 := ((0 : Int), (fromv + (1 : Int)), c5)) (fun s X2 h => ?_) h
     obtain ⟨n, endv, l70101⟩ := s
     have h : VCc66_l2 c0 c3 c4 R c rule fromv over K n endv l70101 X2 := h
     unfold VCc66_l2 at h
     refine aw_seq ?_
     refine srn 4 ⟨99, [e9_12, sI 1 c, sI 2 rule, e9_29, e9_6 c3 c rule, sp 10 10, sI 13 n, sI 14 endv, sB 65 (decide (endv < over)), e9_18], [e9_28 fromv over, e9_19 c rule fromv over, e9_0 c0 c1 c2 c3 c4, e9_7 l70101]⟩ (by kernel_rfl) rfl ?_
     refine aw_cond (b := (decide (endv < over))) (by kernel_rfl) (fun hb => ?_) (fun hb => ?_)
     ·have h := h.1 hb
      refine aw_skip ?_
      refine thenQ_n ?_
      refine aw_seq ?_
      refine aw_block ?_
      refine aw_seq ?_
      refine aw_conv [.ren 7 30100, .ren 10 30101] (st' := (⟨99, [e9_12, sI 1 c, sI 2 rule, e9_35, e9_6 c3 c rule, e9_34, sI 13 n, sI 14 endv, sB 65 (decide (endv < over)), e9_18], [e9_10 fromv over, e9_5 c rule fromv over, e9_0 c0 c1 c2 c3 c4, e9_7 l70101]⟩ : St)) (by kernel_rfl) ?_
      refine awd_begin [30100, 30101, 70100, 70101] (by kernel_rfl) ?_
      obtain ⟨o1, h⟩ := h
      refine drq (by kernel_rfl) [0, 1, 2, 3, 4, 6] (ob := (Ts 2 (inIdx (0 : Int) (((c3.getD (c).toNat ((0 : Int), ([] : LI))).2).drop (rule).toNat).length ∧ Ts 3 True))) (done' := [6, 4, 3, 2, 1, 0]) (st' := (⟨99, [e9_12, sI 1 c, sI 2 rule, e9_35, e9_6 c3 c rule, e9_34, sI 13 n, sI 14 endv, sp 68 70100, e9_27 c3 c rule, sp 72 30100, sI 74 endv, e9_18], [e9_10 fromv over, e9_5 c rule fromv over, e9_0 c0 c1 c2 c3 c4, e9_7 l70101]⟩ : St)) (by kernel_rfl) (tsI 2 ⟨o1, tsI 3 trivial⟩) ?_
      refine awd_one (i := 5) (by kernel_rfl) ?_
      refine dsq (ob := True) (st' := (⟨99, [e9_12, sI 1 c, sI 2 rule, e9_35, e9_6 c3 c rule, e9_34, sI 13 n, sI 14 endv, sp 68 70100, e9_27 c3 c rule, sI 73 fromv, sI 74 endv, e9_18], [e9_10 fromv over, e9_5 c rule fromv over, e9_0 c0 c1 c2 c3 c4, e9_7 l70101]⟩ : St)) rfl (by kernel_rfl) trivial ?_
      refine drq (by kernel_rfl) [7] (ob := (Ts 1 True)) (done' := [7, 5, 6, 4, 3, 2, 1, 0]) (st' := (⟨99, [e9_12, sI 1 c, sI 2 rule, e9_35, e9_6 c3 c rule, e9_34, sI 13 n, sI 14 endv, sp 68 70100, e9_27 c3 c rule, sA 75 [.pI fromv, .pI endv], e9_18], [e9_10 fromv over, e9_5 c rule fromv over, e9_0 c0 c1 c2 c3 c4, e9_7 l70101]⟩ : St)) (by kernel_rfl) (tsI 1 trivial) ?_
      refine awd_one (i := 8) (by kernel_rfl) ?_
      refine adop_inlr [.t 6] [.c (.ptr 70100 0), .c (.pI ((((c3.getD (c).toNat ((0 : Int), ([] : LI))).2).drop (rule).toNat).getD ((0 : Int)).toNat (0 : Int))), .agg [.pI fromv, .pI endv]] [] rfl rfl rfl (by kernel_rfl) rfl (by kernel_rfl) Try.call45 (by kernel_rfl) (by kernel_rfl) Try.func45 rfl rfl (by kernel_rfl) ?_
      refine aw_conv [] (st' := (⟨87, [e9_12, e9_1 c3 c rule, sA 2 [.pI fromv, .pI endv], e9_23, sI 88 c, sI 89 rule, e9_24, e9_4 c3 c rule, e9_25, sI 100 n, sI 101 endv, sp 155 70100, sI 158 ((((c3.getD (c).toNat ((0 : Int), ([] : LI))).2).drop (rule).toNat).getD ((0 : Int)).toNat (0 : Int)), sA 162 [.pI fromv, .pI endv], e9_13], [e9_10 fromv over, e9_5 c rule fromv over, e9_0 c0 c1 c2 c3 c4, e9_7 l70101]⟩ : St)) (by kernel_rfl) ?_
      refine withJoinR (σ := Int × LK) (fun s => (⟨87, [sI 6 s.1, e9_23, sI 88 c, sI 89 rule, e9_24, e9_4 c3 c rule, e9_25, sI 100 n, sI 101 endv, e9_13], [e9_10 fromv over, e9_5 c rule fromv over, e9_0 c0 c1 c2 c3 c4, (70101, [], .dict (.pr tI t3) tI s.2)]⟩ : St)) (fun s => VCc66_k5 R c rule over n endv X2 s.1 s.2) (fun s h => ?_) (fun rest6 => ?_)
      ·obtain ⟨v6, l701012⟩ := s
       have h : VCc66_k5 R c rule over n endv X2 v6 l701012 := h
       unfold VCc66_k5 at h
       refine inlR_n (ob := True) (.v (.c (.pI v6))) (by kernel_rfl) trivial rfl ?_
       refine dpr (st' := (⟨99, [e9_12, sI 1 c, sI 2 rule, e9_35, e9_6 c3 c rule, e9_34, sI 13 n, sI 14 endv, sI 76 v6, e9_18], [e9_10 fromv over, e9_5 c rule fromv over, e9_0 c0 c1 c2 c3 c4, e9_11 l701012]⟩ : St)) (by kernel_rfl) ?_
       refine drq (by kernel_rfl) [9] (ob := (Ts 1 True)) (done' := [9, 8, 7, 5, 6, 4, 3, 2, 1, 0]) (st' := (⟨99, [e9_12, sI 1 c, sI 2 rule, e9_35, e9_6 c3 c rule, e9_34, sI 13 n, sI 14 endv, sI 15 v6, e9_18], [e9_10 fromv over, e9_5 c rule fromv over, e9_0 c0 c1 c2 c3 c4, e9_11 l701012]⟩ : St)) (by kernel_rfl) (tsI 1 trivial) ?_
       refine awd_done (by kernel_rfl) ?_
       refine thenQ_n ?_
       refine srn 2 ⟨99, [e9_12, sI 1 c, sI 2 rule, e9_35, e9_6 c3 c rule, e9_34, sI 13 n, sI 14 endv, sI 15 v6, sB 78 (decide ((0 : Int) < v6)), e9_18], [e9_10 fromv over, e9_5 c rule fromv over, e9_0 c0 c1 c2 c3 c4, e9_11 l701012]⟩ (by kernel_rfl) rfl ?_
       refine withJoin (σ := Int × LK) (fun s => (⟨99, [e9_12, sI 1 c, sI 2 rule, e9_35, e9_6 c3 c rule, e9_34, sI 13 s.1, sI 14 endv, e9_18], [e9_10 fromv over, e9_5 c rule fromv over, e9_0 c0 c1 c2 c3 c4, (70101, [], .dict (.pr tI t3) tI s.2)]⟩ : St)) (fun s => VCc66_k6 endv X2 s.1 s.2) (fun s h => ?_) (fun rest5 => ?_)
       ·obtain ⟨n2, l701013⟩ := s
        have h : VCc66_k6 endv X2 n2 l701013 := h
        unfold VCc66_k6 at h
        refine blockQ_n ?_
        refine thenQ_n ?_
        refine aw_region ?_
        obtain ⟨o1, h⟩ := h
        refine rq 3 (ob := (Ts 1 (InR (endv + (1 : Int)) ∧ Ts 1 True))) (st' := (⟨99, [e9_12, sI 1 c, sI 2 rule, e9_35, e9_6 c3 c rule, e9_34, sI 13 n2, sI 14 (endv + (1 : Int)), e9_18], [e9_10 fromv over, e9_5 c rule fromv over, e9_0 c0 c1 c2 c3 c4, e9_33 l701013]⟩ : St)) (by kernel_rfl) (tsI 1 ⟨o1, tsI 1 trivial⟩) ?_
        refine awl_conv [.ren 30100 50100, .ren 30101 50101, .ren 50100 7, .ren 50101 10] (st' := (⟨99, [e9_12, sI 1 c, sI 2 rule, e9_29, e9_6 c3 c rule, sp 10 10, sI 13 n2, sI 14 (endv + (1 : Int)), e9_18], [e9_28 fromv over, e9_19 c rule fromv over, e9_0 c0 c1 c2 c3 c4, e9_33 l701013]⟩ : St)) (by kernel_rfl) ?_
        refine awl_nil ?_
        exact thenQ_n ⟨(n2, (endv + (1 : Int)), l701013), rfl, h⟩
       ·refine aw_cond (b := (decide ((0 : Int) < v6))) (by kernel_rfl) (fun hb => ?_) (fun hb => ?_)
        ·have h := h.1 hb
         refine aw_region ?_
         obtain ⟨o1, h⟩ := h
         refine rq 10 (ob := (Ts 5 (InR (rule + (1 : Int)) ∧ Ts 4 True))) (st' := (⟨99, [e9_12, sI 1 c, sI 2 rule, e9_35, e9_6 c3 c rule, e9_34, sI 14 endv, sI 79 n, sI 80 v6, sp 81 70100, sI 82 c, sI 84 (rule + (1 : Int)), sA 88 [.pI endv, .pI over], e9_18], [e9_10 fromv over, e9_5 c rule fromv over, e9_0 c0 c1 c2 c3 c4, e9_11 l701012]⟩ : St)) (by kernel_rfl) (tsI 5 ⟨o1, tsI 4 trivial⟩) ?_
         refine awl_lcall (σ := Int × LK) [70100, 70101] [70100] [.c (.ptr 70100 0), .c (.pI c), .c (.pI (rule + (1 : Int))), .agg [.pI endv, .pI over]] [] (fun ret89v => .v (.c (.pI ret89v.1))) (fun ret89v => [e9_0 c0 c1 c2 c3 c4, e9_21 ret89v]) (_) [e9_0 c0 c1 c2 c3 c4, e9_11 l701012] (fun ret89v => (⟨99, [sI 89 ret89v.1, e9_12, sI 1 c, sI 2 rule, e9_35, e9_6 c3 c rule, e9_34, sI 14 endv, sI 79 n, sI 80 v6, sp 81 70100, sI 82 c, sI 84 (rule + (1 : Int)), sA 88 [.pI endv, .pI over], e9_18], [e9_0 c0 c1 c2 c3 c4, e9_21 ret89v, e9_10 fromv over, e9_5 c rule fromv over]⟩ : St)) rfl rfl (by kernel_rfl) rfl (by kernel_rfl) Try.call66 (by kernel_rfl) (by kernel_rfl) (by kernel_rfl) (fun _ _ => rfl) (fun _ => by kernel_rfl) (hR c (rule + (1 : Int)) endv over l701012 _ h) (fun ret89v h => ?_)
         refine lpr (st' := (⟨99, [e9_12, sI 1 c, sI 2 rule, e9_35, e9_6 c3 c rule, e9_34, sI 14 endv, sI 79 n, sI 80 v6, sI 89 ret89v.1, e9_18], [e9_10 fromv over, e9_5 c rule fromv over, e9_0 c0 c1 c2 c3 c4, e9_21 ret89v]⟩ : St)) (by kernel_rfl) ?_
         refine lcq (d := 90) [.d tI, .d tI] (fun ret90v => (⟨99, [e9_12, sI 1 c, sI 2 rule, e9_35, e9_6 c3 c rule, e9_34, sI 14 endv, sI 79 n, sI 90 ret90v, e9_18], [e9_10 fromv over, e9_5 c rule fromv over, e9_0 c0 c1 c2 c3 c4, e9_21 ret89v]⟩ : St)) (by kernel_rfl) Try.call24 (fun _ => by kernel_rfl) (link24 v6 ret89v.1 _ h) (fun ret90v h => ?_)
         refine lcq (d := 91) [.d tI, .d tI] (fun ret91v => (⟨99, [e9_12, sI 1 c, sI 2 rule, e9_35, e9_6 c3 c rule, e9_34, sI 14 endv, sI 91 ret91v, e9_18], [e9_10 fromv over, e9_5 c rule fromv over, e9_0 c0 c1 c2 c3 c4, e9_21 ret89v]⟩ : St)) (by kernel_rfl) Try.call25 (fun _ => by kernel_rfl) (link25 n ret90v _ h) (fun ret91v h => ?_)
         refine rqT 1 ⟨99, [e9_12, sI 1 c, sI 2 rule, e9_35, e9_6 c3 c rule, e9_34, sI 13 ret91v, sI 14 endv, e9_18], [e9_10 fromv over, e9_5 c rule fromv over, e9_0 c0 c1 c2 c3 c4, e9_21 ret89v]⟩ (by kernel_rfl) ?_
         refine awl_nil ?_
         exact rest5 (ret91v, ret89v.2) h
        ·have h := h.2 hb
         refine cpr (st' := (⟨99, [e9_12, sI 1 c, sI 2 rule, e9_35, e9_6 c3 c rule, e9_34, sI 13 n, sI 14 endv, e9_18], [e9_10 fromv over, e9_5 c rule fromv over, e9_0 c0 c1 c2 c3 c4, e9_11 l701012]⟩ : St)) (by kernel_rfl) ?_
         refine aw_skip ?_
         exact rest5 (n, l701012) h
      ·refine srn 2 ⟨87, [e9_12, e9_1 c3 c rule, sp 5 5, e9_23, sI 88 c, sI 89 rule, e9_24, e9_4 c3 c rule, e9_25, sI 100 n, sI 101 endv, e9_13], [e9_17 fromv endv, e9_10 fromv over, e9_5 c rule fromv over, e9_0 c0 c1 c2 c3 c4, e9_7 l70101]⟩ (by kernel_rfl) rfl ?_
       refine aw_seq ?_
       refine srn 7 ⟨87, [e9_12, e9_1 c3 c rule, sp 5 5, e9_30 c3 c rule c0, e9_23, sI 88 c, sI 89 rule, e9_24, e9_4 c3 c rule, e9_25, sI 100 n, sI 101 endv, e9_13], [e9_17 fromv endv, e9_10 fromv over, e9_5 c rule fromv over, e9_0 c0 c1 c2 c3 c4, e9_7 l70101]⟩ (by kernel_rfl) rfl ?_
       refine aw_cond (b := (decide (((((c3.getD (c).toNat ((0 : Int), ([] : LI))).2).drop (rule).toNat).getD ((0 : Int)).toNat (0 : Int)) < c0))) (by kernel_rfl) (fun hb => ?_) (fun hb => ?_)
       ·have h := h.1 hb
        refine aw_seq ?_
        refine aw_seq ?_
        refine awd_begin [] (by kernel_rfl) ?_
        obtain ⟨o1, o2, h⟩ := h
        refine drq (by kernel_rfl) e9_n0 (ob := (Ts 4 (InR (fromv + (1 : Int)) ∧ Ts 2 (Ti 6 ((decide (endv = (fromv + (1 : Int)))) = true → True) (((decide (endv = (fromv + (1 : Int)))) = true → inIdx fromv c4.length) ∧ Ti 3 ((decide (endv = (fromv + (1 : Int)))) = true → True) (Ts 1 True)))))) (done' := e9_n1) (st' := (⟨87, [sB 37 ((decide (endv = (fromv + (1 : Int)))) && (decide ((c4.getD (fromv).toNat (0 : Int)) = ((((c3.getD (c).toNat ((0 : Int), ([] : LI))).2).drop (rule).toNat).getD ((0 : Int)).toNat (0 : Int))))), e9_23, sI 88 c, sI 89 rule, e9_24, e9_4 c3 c rule, e9_25, sI 100 n, sI 101 endv, e9_13], [e9_10 fromv over, e9_5 c rule fromv over, e9_0 c0 c1 c2 c3 c4, e9_7 l70101]⟩ : St)) (by kernel_rfl) (tsI 4 (⟨o1, tsI 2 (tiI 6 (fun _ => trivial) ⟨o2, tiI 3 (fun _ => trivial) (tsI 1 trivial)⟩)⟩)) ?_
        refine awd_done (by kernel_rfl) ?_
        refine thenQ_n ?_
        refine aw_cond (b := ((decide (endv = (fromv + (1 : Int)))) && (decide ((c4.getD (fromv).toNat (0 : Int)) = ((((c3.getD (c).toNat ((0 : Int), ([] : LI))).2).drop (rule).toNat).getD ((0 : Int)).toNat (0 : Int)))))) (by kernel_rfl) (fun hb => ?_) (fun hb => ?_)
        ·have h := h.1 hb
         refine srn 1 ⟨87, [sI 6 (1 : Int), e9_23, sI 88 c, sI 89 rule, e9_24, e9_4 c3 c rule, e9_25, sI 100 n, sI 101 endv, e9_13], [e9_10 fromv over, e9_5 c rule fromv over, e9_0 c0 c1 c2 c3 c4, e9_7 l70101]⟩ (by kernel_rfl) rfl ?_
         refine aw_ret ?_
         refine thenQ_r ?_
         refine thenQ_r ?_
         exact rest6 ((1 : Int), l70101) h
        ·have h := h.2 hb
         refine aw_skip ?_
         refine thenQ_n ?_
         refine srn 1 ⟨87, [sI 6 (0 : Int), e9_23, sI 88 c, sI 89 rule, e9_24, e9_4 c3 c rule, e9_25, sI 100 n, sI 101 endv, e9_13], [e9_10 fromv over, e9_5 c rule fromv over, e9_0 c0 c1 c2 c3 c4, e9_7 l70101]⟩ (by kernel_rfl) rfl ?_
         refine aw_ret ?_
         refine thenQ_r ?_
         exact rest6 ((0 : Int), l70101) h
       ·have h := h.2 hb
        refine aw_skip ?_
        refine thenQ_n ?_
        refine srn 5 ⟨87, [e9_12, e9_1 c3 c rule, sp 5 5, e9_29, e9_23, sI 88 c, sI 89 rule, e9_24, e9_4 c3 c rule, e9_25, sI 100 n, sI 101 endv, e9_13], [e9_17 fromv endv, e9_3 c3 c rule fromv endv, e9_10 fromv over, e9_5 c rule fromv over, e9_0 c0 c1 c2 c3 c4, e9_7 l70101]⟩ (by kernel_rfl) rfl ?_
        refine aw_seq ?_
        refine aw_seq ?_
        refine awd_begin [] (by kernel_rfl) ?_
        refine drq (by kernel_rfl) e9_n2 (ob := (Ts 11 True)) (done' := e9_n3) (st' := (⟨87, [e9_12, e9_1 c3 c rule, sp 5 5, e9_29, sI 8 ((mget l70101 ((-1 : Int), (((((c3.getD (c).toNat ((0 : Int), ([] : LI))).2).drop (rule).toNat).getD ((0 : Int)).toNat (0 : Int)), (fromv, endv)))).getD (0 : Int)), sB 9 ((mget l70101 ((-1 : Int), (((((c3.getD (c).toNat ((0 : Int), ([] : LI))).2).drop (rule).toNat).getD ((0 : Int)).toNat (0 : Int)), (fromv, endv)))).isSome), e9_23, sI 88 c, sI 89 rule, e9_24, e9_4 c3 c rule, e9_25, sI 100 n, sI 101 endv, e9_13], [e9_17 fromv endv, e9_3 c3 c rule fromv endv, e9_10 fromv over, e9_5 c rule fromv over, e9_0 c0 c1 c2 c3 c4, e9_7 l70101]⟩ : St)) (by kernel_rfl) (tsI 11 trivial) ?_
        refine awd_done (by kernel_rfl) ?_
        refine thenQ_n ?_
        refine srn 1 ⟨87, [e9_12, e9_1 c3 c rule, sp 5 5, e9_29, sI 8 ((mget l70101 ((-1 : Int), (((((c3.getD (c).toNat ((0 : Int), ([] : LI))).2).drop (rule).toNat).getD ((0 : Int)).toNat (0 : Int)), (fromv, endv)))).getD (0 : Int)), sB 50 ((mget l70101 ((-1 : Int), (((((c3.getD (c).toNat ((0 : Int), ([] : LI))).2).drop (rule).toNat).getD ((0 : Int)).toNat (0 : Int)), (fromv, endv)))).isSome), e9_23, sI 88 c, sI 89 rule, e9_24, e9_4 c3 c rule, e9_25, sI 100 n, sI 101 endv, e9_13], [e9_17 fromv endv, e9_3 c3 c rule fromv endv, e9_10 fromv over, e9_5 c rule fromv over, e9_0 c0 c1 c2 c3 c4, e9_7 l70101]⟩ (by kernel_rfl) rfl ?_
        refine aw_cond (b := (mget l70101 ((-1 : Int), (((((c3.getD (c).toNat ((0 : Int), ([] : LI))).2).drop (rule).toNat).getD ((0 : Int)).toNat (0 : Int)), (fromv, endv)))).isSome) (by kernel_rfl) (fun hb => ?_) (fun hb => ?_)
        ·have h := h.1 hb
         refine srn 2 ⟨87, [sI 6 ((mget l70101 ((-1 : Int), (((((c3.getD (c).toNat ((0 : Int), ([] : LI))).2).drop (rule).toNat).getD ((0 : Int)).toNat (0 : Int)), (fromv, endv)))).getD (0 : Int)), e9_23, sI 88 c, sI 89 rule, e9_24, e9_4 c3 c rule, e9_25, sI 100 n, sI 101 endv, e9_13], [e9_10 fromv over, e9_5 c rule fromv over, e9_0 c0 c1 c2 c3 c4, e9_7 l70101]⟩ (by kernel_rfl) rfl ?_
         refine aw_ret ?_
         refine thenQ_r ?_
         exact rest6 (((mget l70101 ((-1 : Int), (((((c3.getD (c).toNat ((0 : Int), ([] : LI))).2).drop (rule).toNat).getD ((0 : Int)).toNat (0 : Int)), (fromv, endv)))).getD (0 : Int)), l70101) h
        ·have h := h.2 hb
         refine aw_skip ?_
         refine thenQ_n ?_
         refine srn 1 ⟨87, [e9_12, e9_1 c3 c rule, sp 5 5, e9_29, sI 10 (0 : Int), e9_23, sI 88 c, sI 89 rule, e9_24, e9_4 c3 c rule, e9_25, sI 100 n, sI 101 endv, e9_13], [e9_17 fromv endv, e9_3 c3 c rule fromv endv, e9_10 fromv over, e9_5 c rule fromv over, e9_0 c0 c1 c2 c3 c4, e9_7 l70101]⟩ (by kernel_rfl) rfl ?_
         refine aw_seq ?_
         refine srn 7 ⟨87, [e9_12, e9_1 c3 c rule, sp 5 5, e9_29, sI 10 (0 : Int), e9_9 c3, e9_15 c3, sI 58 (0 : Int), e9_23, sI 88 c, sI 89 rule, e9_24, e9_4 c3 c rule, e9_25, sI 100 n, sI 101 endv, e9_13], [e9_17 fromv endv, e9_3 c3 c rule fromv endv, e9_10 fromv over, e9_5 c rule fromv over, e9_0 c0 c1 c2 c3 c4, e9_7 l70101]⟩ (by kernel_rfl) rfl ?_
         refine withJoin (σ := Int × LK) (fun s => (⟨87, [e9_12, e9_29, sI 10 s.1, e9_23, sI 88 c, sI 89 rule, e9_24, e9_4 c3 c rule, e9_25, sI 100 n, sI 101 endv, e9_13], [e9_3 c3 c rule fromv endv, e9_10 fromv over, e9_5 c rule fromv over, e9_0 c0 c1 c2 c3 c4, (70101, [], .dict (.pr tI t3) tI s.2)]⟩ : St)) (fun s => VCc66_k7 c3 R c rule fromv over n endv X2 s.1 s.2) (fun s h => ?_) (fun rest7 => ?_)
         ·obtain ⟨n2, l701012⟩ := s
          have h : VCc66_k7 c3 R c rule fromv over n endv X2 n2 l701012 := h
          unfold VCc66_k7 at h
          refine thenQ_n ?_
          refine aw_seq ?_
          refine awd_begin [70101] (by kernel_rfl) ?_
          refine drq (by kernel_rfl) [0, 1, 2, 3, 4, 5] (ob := (Ts 6 True)) (done' := [5, 4, 3, 2, 1, 0]) (st' := (⟨87, [sI 10 n2, s1 83 (.own 70101), sA 84 [.pI (-1 : Int), .pI ((((c3.getD (c).toNat ((0 : Int), ([] : LI))).2).drop (rule).toNat).getD ((0 : Int)).toNat (0 : Int)), .pI fromv, .pI endv], sI 85 n2, e9_23, sI 88 c, sI 89 rule, e9_24, e9_4 c3 c rule, e9_25, sI 100 n, sI 101 endv, e9_13], [e9_10 fromv over, e9_5 c rule fromv over, e9_0 c0 c1 c2 c3 c4, e9_11 l701012]⟩ : St)) (by kernel_rfl) (tsI 6 trivial) ?_
          refine awd_one (i := 6) (by kernel_rfl) ?_
          refine dsq (ob := True) (st' := (⟨87, [sI 10 n2, e9_23, sI 88 c, sI 89 rule, e9_24, e9_4 c3 c rule, e9_25, sI 100 n, sI 101 endv, e9_13], [e9_10 fromv over, e9_5 c rule fromv over, e9_0 c0 c1 c2 c3 c4, e9_20 l701012 c3 c rule fromv endv n2]⟩ : St)) rfl (by kernel_rfl) trivial ?_
          refine awd_done (by kernel_rfl) ?_
          refine thenQ_n ?_
          refine srn 2 ⟨87, [sI 6 n2, e9_23, sI 88 c, sI 89 rule, e9_24, e9_4 c3 c rule, e9_25, sI 100 n, sI 101 endv, e9_13], [e9_10 fromv over, e9_5 c rule fromv over, e9_0 c0 c1 c2 c3 c4, e9_20 l701012 c3 c rule fromv endv n2]⟩ (by kernel_rfl) rfl ?_
          refine aw_ret ?_
          exact rest6 (n2, (mset l701012 ((-1 : Int), (((((c3.getD (c).toNat ((0 : Int), ([] : LI))).2).drop (rule).toNat).getD ((0 : Int)).toNat (0 : Int)), (fromv, endv))) n2)) h
         ·refine aw_block ?_
          refine aw_loop (σ := Int × Int × LK) (fun s => (⟨87, [e9_12, e9_1 c3 c rule, sp 5 5, e9_29, sI 10 s.1, e9_9 c3, e9_15 c3, sI 58 s.2.1, e9_23, sI 88 c, sI 89 rule, e9_24, e9_4 c3 c rule, e9_25, sI 100 n, sI 101 endv, e9_13], [e9_17 fromv endv, e9_3 c3 c rule fromv endv, e9_10 fromv over, e9_5 c rule fromv over, e9_0 c0 c1 c2 c3 c4, (70101, [], .dict (.pr tI t3) tI s.2.2)]⟩ : St)) (fun s X => VCc66_l3 c0 c3 R c rule fromv over n endv X2 s.1 s.2.1 s.2.2 X) (s0 := ((0 : Int), (0 : Int), l70101)) (fun s X3 h => ?_) h
          obtain ⟨n2, v58, l701012⟩ := s
          have h : VCc66_l3 c0 c3 R c rule fromv over n endv X2 n2 v58 l701012 X3 := h
          unfold VCc66_l3 at h
          refine srn 1 ⟨87, [e9_12, e9_1 c3 c rule, sp 5 5, e9_29, sI 10 n2, e9_9 c3, e9_15 c3, sI 58 v58, sB 59 (decide (v58 < (c3.length : Int))), e9_23, sI 88 c, sI 89 rule, e9_24, e9_4 c3 c rule, e9_25, sI 100 n, sI 101 endv, e9_13], [e9_17 fromv endv, e9_3 c3 c rule fromv endv, e9_10 fromv over, e9_5 c rule fromv over, e9_0 c0 c1 c2 c3 c4, e9_11 l701012]⟩ (by kernel_rfl) rfl ?_
          refine aw_seq ?_
          refine aw_cond (b := (decide (v58 < (c3.length : Int)))) (by kernel_rfl) (fun hb => ?_) (fun hb => ?_)
          ·have h := h.1 hb
           refine aw_skip ?_
           refine thenQ_n ?_
           refine aw_seq ?_
           refine aw_block ?_
           refine sr ?_
           obtain ⟨o1, h⟩ := h
           refine rq 6 (ob := (Ts 1 (inIdx v58 c3.length ∧ Ts 4 True))) (st' := (⟨87, [e9_12, e9_1 c3 c rule, sp 5 5, e9_29, sI 10 n2, sI 11 v58, sp 12 12, e9_9 c3, e9_15 c3, sI 58 v58, e9_23, sI 88 c, sI 89 rule, e9_24, e9_4 c3 c rule, e9_25, sI 100 n, sI 101 endv, e9_13], [e9_17 fromv endv, e9_3 c3 c rule fromv endv, e9_31 c3 v58, e9_10 fromv over, e9_5 c rule fromv over, e9_0 c0 c1 c2 c3 c4, e9_11 l701012]⟩ : St)) (by kernel_rfl) (tsI 1 ⟨o1, tsI 4 trivial⟩) ?_
           refine nn ?_
           refine aw_seq ?_
           refine awd_begin [] (by kernel_rfl) ?_
           obtain ⟨o1, h⟩ := h
           refine drq (by kernel_rfl) [0, 1, 2, 3, 4, 5, 6, 7, 8, 9] (ob := (Ts 8 (InR (((((c3.getD (c).toNat ((0 : Int), ([] : LI))).2).drop (rule).toNat).getD ((0 : Int)).toNat (0 : Int)) - c0) ∧ Ts 1 True))) (done' := [9, 8, 7, 6, 5, 4, 3, 2, 1, 0]) (st' := (⟨87, [e9_12, e9_1 c3 c rule, sp 5 5, e9_29, sI 10 n2, sI 11 v58, e9_9 c3, e9_15 c3, sI 58 v58, e9_22 c3 v58 c rule c0, e9_23, sI 88 c, sI 89 rule, e9_24, e9_4 c3 c rule, e9_25, sI 100 n, sI 101 endv, e9_13], [e9_17 fromv endv, e9_3 c3 c rule fromv endv, e9_10 fromv over, e9_5 c rule fromv over, e9_0 c0 c1 c2 c3 c4, e9_11 l701012]⟩ : St)) (by kernel_rfl) (tsI 8 ⟨o1, tsI 1 trivial⟩) ?_
           refine awd_done (by kernel_rfl) ?_
           refine thenQ_n ?_
           refine withJoin (σ := Int × LK) (fun s => (⟨87, [e9_12, e9_1 c3 c rule, sp 5 5, e9_29, sI 10 s.1, e9_9 c3, e9_15 c3, sI 58 v58, e9_23, sI 88 c, sI 89 rule, e9_24, e9_4 c3 c rule, e9_25, sI 100 n, sI 101 endv, e9_13], [e9_17 fromv endv, e9_3 c3 c rule fromv endv, e9_10 fromv over, e9_5 c rule fromv over, e9_0 c0 c1 c2 c3 c4, (70101, [], .dict (.pr tI t3) tI s.2)]⟩ : St)) (fun s => VCc66_k8 v58 X3 s.1 s.2) (fun s h => ?_) (fun rest8 => ?_)
           ·obtain ⟨n3, l701013⟩ := s
            have h : VCc66_k8 v58 X3 n3 l701013 := h
            unfold VCc66_k8 at h
            refine blockQ_n ?_
            refine thenQ_n ?_
            refine aw_region ?_
            obtain ⟨o1, h⟩ := h
            refine rq 2 (ob := (InR (v58 + (1 : Int)) ∧ Ts 1 True)) (st' := (⟨87, [e9_12, e9_1 c3 c rule, sp 5 5, e9_29, sI 10 n3, e9_9 c3, e9_15 c3, sI 58 (v58 + (1 : Int)), e9_23, sI 88 c, sI 89 rule, e9_24, e9_4 c3 c rule, e9_25, sI 100 n, sI 101 endv, e9_13], [e9_17 fromv endv, e9_3 c3 c rule fromv endv, e9_10 fromv over, e9_5 c rule fromv over, e9_0 c0 c1 c2 c3 c4, e9_33 l701013]⟩ : St)) (by kernel_rfl) (⟨o1, tsI 1 trivial⟩) ?_
            refine awl_nil ?_
            exact thenQ_n ⟨(n3, (v58 + (1 : Int)), l701013), rfl, h⟩
           ·refine aw_cond (b := (decide ((c3.getD (v58).toNat ((0 : Int), ([] : LI))).1 = (((((c3.getD (c).toNat ((0 : Int), ([] : LI))).2).drop (rule).toNat).getD ((0 : Int)).toNat (0 : Int)) - c0)))) (by kernel_rfl) (fun hb => ?_) (fun hb => ?_)
            ·have h := h.1 hb
             refine aw_region ?_
             refine rqT 4 ⟨87, [e9_12, e9_1 c3 c rule, sp 5 5, e9_29, e9_9 c3, e9_15 c3, sI 58 v58, sI 73 n2, sp 74 70100, sI 75 v58, sA 76 [.pI fromv, .pI endv], e9_23, sI 88 c, sI 89 rule, e9_24, e9_4 c3 c rule, e9_25, sI 100 n, sI 101 endv, e9_13], [e9_17 fromv endv, e9_3 c3 c rule fromv endv, e9_10 fromv over, e9_5 c rule fromv over, e9_0 c0 c1 c2 c3 c4, e9_11 l701012]⟩ (by kernel_rfl) ?_
             refine awl_lcall (σ := Int × LK) [70100, 70101] [70100] [.c (.ptr 70100 0), .c (.pI v58), .c (.pI (0 : Int)), .agg [.pI fromv, .pI endv]] [] (fun ret77v => .v (.c (.pI ret77v.1))) (fun ret77v => [e9_0 c0 c1 c2 c3 c4, e9_14 ret77v]) (_) [e9_0 c0 c1 c2 c3 c4, e9_11 l701012] (fun ret77v => (⟨87, [sI 77 ret77v.1, e9_12, e9_1 c3 c rule, sp 5 5, e9_29, e9_9 c3, e9_15 c3, sI 58 v58, sI 73 n2, sp 74 70100, sI 75 v58, sA 76 [.pI fromv, .pI endv], e9_23, sI 88 c, sI 89 rule, e9_24, e9_4 c3 c rule, e9_25, sI 100 n, sI 101 endv, e9_13], [e9_0 c0 c1 c2 c3 c4, e9_14 ret77v, e9_17 fromv endv, e9_3 c3 c rule fromv endv, e9_10 fromv over, e9_5 c rule fromv over]⟩ : St)) rfl rfl (by kernel_rfl) rfl (by kernel_rfl) Try.call66 (by kernel_rfl) (by kernel_rfl) (by kernel_rfl) (fun _ _ => rfl) (fun _ => by kernel_rfl) (hR v58 (0 : Int) fromv endv l701012 _ h) (fun ret77v h => ?_)
             refine lpr (st' := (⟨87, [e9_12, e9_1 c3 c rule, sp 5 5, e9_29, e9_9 c3, e9_15 c3, sI 58 v58, sI 73 n2, sI 77 ret77v.1, e9_23, sI 88 c, sI 89 rule, e9_24, e9_4 c3 c rule, e9_25, sI 100 n, sI 101 endv, e9_13], [e9_17 fromv endv, e9_3 c3 c rule fromv endv, e9_10 fromv over, e9_5 c rule fromv over, e9_0 c0 c1 c2 c3 c4, e9_14 ret77v]⟩ : St)) (by kernel_rfl) ?_
             refine lcq (d := 78) [.d tI, .d tI] (fun ret78v => (⟨87, [e9_12, e9_1 c3 c rule, sp 5 5, e9_29, e9_9 c3, e9_15 c3, sI 58 v58, sI 78 ret78v, e9_23, sI 88 c, sI 89 rule, e9_24, e9_4 c3 c rule, e9_25, sI 100 n, sI 101 endv, e9_13], [e9_17 fromv endv, e9_3 c3 c rule fromv endv, e9_10 fromv over, e9_5 c rule fromv over, e9_0 c0 c1 c2 c3 c4, e9_14 ret77v]⟩ : St)) (by kernel_rfl) Try.call25 (fun _ => by kernel_rfl) (link25 n2 ret77v.1 _ h) (fun ret78v h => ?_)
             refine rqT 1 ⟨87, [e9_12, e9_1 c3 c rule, sp 5 5, e9_29, sI 10 ret78v, e9_9 c3, e9_15 c3, sI 58 v58, e9_23, sI 88 c, sI 89 rule, e9_24, e9_4 c3 c rule, e9_25, sI 100 n, sI 101 endv, e9_13], [e9_17 fromv endv, e9_3 c3 c rule fromv endv, e9_10 fromv over, e9_5 c rule fromv over, e9_0 c0 c1 c2 c3 c4, e9_14 ret77v]⟩ (by kernel_rfl) ?_
             refine awl_nil ?_
             exact rest8 (ret78v, ret77v.2) h
            ·have h := h.2 hb
             refine cpr (st' := (⟨87, [e9_12, e9_1 c3 c rule, sp 5 5, e9_29, sI 10 n2, e9_9 c3, e9_15 c3, sI 58 v58, e9_23, sI 88 c, sI 89 rule, e9_24, e9_4 c3 c rule, e9_25, sI 100 n, sI 101 endv, e9_13], [e9_17 fromv endv, e9_3 c3 c rule fromv endv, e9_10 fromv over, e9_5 c rule fromv over, e9_0 c0 c1 c2 c3 c4, e9_11 l701012]⟩ : St)) (by kernel_rfl) ?_
             refine aw_skip ?_
             exact rest8 (n2, l701012) h
          ·have h := h.2 hb
           refine cpr (st' := (⟨87, [e9_12, e9_29, sI 10 n2, e9_23, sI 88 c, sI 89 rule, e9_24, e9_4 c3 c rule, e9_25, sI 100 n, sI 101 endv, e9_13], [e9_3 c3 c rule fromv endv, e9_10 fromv over, e9_5 c rule fromv over, e9_0 c0 c1 c2 c3 c4, e9_11 l701012]⟩ : St)) (by kernel_rfl) ?_
           refine aw_exit ?_
           refine thenQ_x ?_
           refine thenQ_x ?_
           refine blockQ_hit ?_
           exact rest7 (n2, l701012) h
     ·have h := h.2 hb
      refine cpr (st' := (⟨99, [e9_12, sp 10 10, sI 13 n, e9_18], [e9_19 c rule fromv over, e9_0 c0 c1 c2 c3 c4, e9_7 l70101]⟩ : St)) (by kernel_rfl) ?_
      refine aw_exit ?_
      refine thenQ_x ?_
      refine thenQ_x ?_
      refine blockQ_hit ?_
      exact rest4 (n, l70101) h
def VCc66_it (c0 : Int) (c1 : Int) (c2 : Int) (c3 : LR) (c4 : LI) : Nat → Int → Int → Int → Int → LK → (Int × LK → Prop) → Prop
  | 0 => fun _ _ _ _ _ _ => False
  | n + 1 => fun c rule fromv over c5 K => VCc66 c0 c1 c2 c3 c4 (VCc66_it c0 c1 c2 c3 c4 n) c rule fromv over c5 K
def VCcr66 (c0 : Int) (c1 : Int) (c2 : Int) (c3 : LR) (c4 : LI) (c : Int) (rule : Int) (fromv : Int) (over : Int) (c5 : LK) (K : Int × LK → Prop) : Prop := ∃ n, VCc66_it c0 c1 c2 c3 c4 n c rule fromv over c5 K
theorem linkci66 (c0 : Int) (c1 : Int) (c2 : Int) (c3 : LR) (c4 : LI) : ∀ (n : Nat) (c : Int) (rule : Int) (fromv : Int) (over : Int) (c5 : LK) (K : Int × LK → Prop), VCc66_it c0 c1 c2 c3 c4 n c rule fromv over c5 K → LCalls Try.prog 66 [70100, 70101] [70100] [e9_0 c0 c1 c2 c3 c4, e9_8 c5] [.c (.ptr 70100 0), .c (.pI c), .c (.pI rule), .agg [.pI fromv, .pI over]] (fun av hp' => ∃ y : Int × LK, av = .v (.c (.pI y.1)) ∧ hp' = [e9_0 c0 c1 c2 c3 c4, (70101, [], .dict (.pr tI t3) tI y.2)] ∧ K y)
  | 0, _, _, _, _, _, _, h => False.elim h
  | n + 1, c, rule, fromv, over, c5, K, h => linkc66 c0 c1 c2 c3 c4 (VCc66_it c0 c1 c2 c3 c4 n) (linkci66 c0 c1 c2 c3 c4 n) c rule fromv over c5 K h
theorem linkcr66 (c0 : Int) (c1 : Int) (c2 : Int) (c3 : LR) (c4 : LI) (c : Int) (rule : Int) (fromv : Int) (over : Int) (c5 : LK) (K : Int × LK → Prop) (h : VCcr66 c0 c1 c2 c3 c4 c rule fromv over c5 K) : LCalls Try.prog 66 [70100, 70101] [70100] [e9_0 c0 c1 c2 c3 c4, e9_8 c5] [.c (.ptr 70100 0), .c (.pI c), .c (.pI rule), .agg [.pI fromv, .pI over]] (fun av hp' => ∃ y : Int × LK, av = .v (.c (.pI y.1)) ∧ hp' = [e9_0 c0 c1 c2 c3 c4, (70101, [], .dict (.pr tI t3) tI y.2)] ∧ K y) := by
  obtain ⟨n, h⟩ := h
  exact linkci66 c0 c1 c2 c3 c4 n c rule fromv over c5 K h
abbrev e9a0 (g : TG) (w : LI) : Nat × Path × Con := hB 30301 [.pI g.1, .pI g.2.1, .pI g.2.2.1, .p (.sl tR) g.2.2.2, .pS w, .own 30300]
abbrev e9a1 (g : TG) (w : LI) : Nat × Path × Con := hB 7 [.pI (-1 : Int), .pI (g.1 + g.2.2.1), .pI (0 : Int), .pI (w.length : Int)]
abbrev e9a2 : Nat × Path × Con := (30300, [], .dict (.pr tI t3) tI ([] : List ((Int × (Int × (Int × Int))) × Int)))
abbrev e9a3 (g : TG) (w : LI) : Nat × Path × Con := hB 70100 [.pI g.1, .pI g.2.1, .pI g.2.2.1, .p (.sl tR) g.2.2.2, .pS w, .own 70101]
abbrev e9a4 (g : TG) : Nat × Path × Con := hB 2 [.pI g.1, .pI g.2.1, .pI g.2.2.1, .p (.sl tR) g.2.2.2]
abbrev e9a5 (g : TG) : Nat × Path × AV := s1 56 (.p (.sl tR) g.2.2.2)
abbrev e9a6 (w : LI) : Nat × Path × Con := hB 5 [.pI (0 : Int), .pI (w.length : Int)]
abbrev e9a7 (l30300 : LK) : Nat × Path × Con := (30300, [], .dict (.pr tI t3) tI l30300)
abbrev e9a8 (g : TG) : Nat × Path × Con := hB 30100 [.pI g.1, .pI g.2.1, .pI g.2.2.1, .p (.sl tR) g.2.2.2]
abbrev e9a9 (g : TG) : Nat × Path × AV := sI 1 (g.1 + g.2.2.1)
abbrev e9a10 (g : TG) (w : LI) : Nat × Path × Con := hB 9 [.pI g.1, .pI g.2.1, .pI g.2.2.1, .p (.sl tR) g.2.2.2, .pS w, .own 7]
abbrev e9a11 (g : TG) : Nat × Path × AV := sI 57 (g.2.2.2.length : Int)
abbrev e9a12 : Nat × Path × Con := (7, [], .dict (.pr tI t3) tI ([] : List ((Int × (Int × (Int × Int))) × Int)))
abbrev e9a13 (ret77v : Int × LK) : Nat × Path × Con := (70101, [], .dict (.pr tI t3) tI ret77v.2)
abbrev e9a14 (g : TG) (w : LI) : Nat × Path × AV := sI 8 ((mget ([] : List ((Int × (Int × (Int × Int))) × Int)) ((-1 : Int), ((g.1 + g.2.2.1), ((0 : Int), (w.length : Int))))).getD (0 : Int))
abbrev e9a15 : Nat × Path × AV := sp 95 30301
abbrev e9a16 (l30300 : LK) (g : TG) (w : LI) (n : Int) : Nat × Path × Con := (30300, [], .dict (.pr tI t3) tI (mset l30300 ((-1 : Int), ((g.1 + g.2.2.1), ((0 : Int), (w.length : Int)))) n))
abbrev e9a17 (w : LI) : Nat × Path × AV := s1 1 (.pS w)
abbrev e9a18 (g : TG) : Nat × Path × AV := sA 10 [.pI g.1, .pI g.2.1, .pI g.2.2.1, .p (.sl tR) g.2.2.2]
abbrev e9a19 (g : TG) : Nat × Path × AV := sA 19 [.pI g.1, .pI g.2.1, .pI g.2.2.1, .p (.sl tR) g.2.2.2]
abbrev e9a20 (g : TG) : Nat × Path × AV := sA 0 [.pI g.1, .pI g.2.1, .pI g.2.2.1, .p (.sl tR) g.2.2.2]
abbrev e9a21 (l30300 : LK) : Nat × Path × Con := (70101, [], .dict (.pr tI t3) tI l30300)
abbrev e9a22 : Nat × Path × AV := sp 0 30301
abbrev e9a23 (w : LI) : Nat × Path × AV := sA 76 [.pI (0 : Int), .pI (w.length : Int)]
abbrev e9a24 : Nat × Path × AV := sp 95 70100
abbrev e9an0 : List Nat := [0, 1, 5, 7, 10, 56, 57, 58, 95]
-- coppicer/table.Trees
def VC9_k1 (K : Int × Int → Prop) (v6 : Int) : Prop :=
  K ((0 : Int), v6)
def VC9_k2 (K : Int × Int → Prop) (v6 : Int) (l30300 : LK) : Prop :=
  (((decide ((1099511627776 : Int) < v6)) = true → VC9_k1 K (1 : Int)) ∧ ((decide ((1099511627776 : Int) < v6)) = false → K (v6, (0 : Int))))
def VC9_k3 (g : TG) (w : LI) (K : Int × Int → Prop) (n : Int) (l30300 : LK) : Prop :=
  VC9_k2 K n (mset l30300 ((-1 : Int), ((g.1 + g.2.2.1), ((0 : Int), (w.length : Int)))) n)
def VC9_k4 (v58 : Int) (X1 : Int × Int × LK → Prop) (n2 : Int) (l70101 : LK) : Prop :=
  (InR (v58 + (1 : Int)) ∧ X1 (n2, (v58 + (1 : Int)), l70101))
def VC9_l1 (g : TG) (w : LI) (K : Int × Int → Prop) (n : Int) (v58 : Int) (l30300 : LK) (X1 : Int × Int × LK → Prop) : Prop :=
  (((decide (v58 < (g.2.2.2.length : Int))) = true → (inIdx v58 g.2.2.2.length ∧ (InR ((g.1 + g.2.2.1) - g.1) ∧ (((decide ((g.2.2.2.getD (v58).toNat ((0 : Int), ([] : LI))).1 = ((g.1 + g.2.2.1) - g.1))) = true → VCcr66 g.1 g.2.1 g.2.2.1 g.2.2.2 w v58 (0 : Int) (0 : Int) (w.length : Int) l30300 (fun (ret77v : Int × LK) => VC25 n ret77v.1 (fun (ret78v : Int) => VC9_k4 v58 X1 ret78v ret77v.2))) ∧ ((decide ((g.2.2.2.getD (v58).toNat ((0 : Int), ([] : LI))).1 = ((g.1 + g.2.2.1) - g.1))) = false → VC9_k4 v58 X1 n l30300))))) ∧ ((decide (v58 < (g.2.2.2.length : Int))) = false → VC9_k3 g w K n l30300))
def VC9 (g : TG) (w : LI) (K : Int × Int → Prop) : Prop :=
  VC12 g w (fun (ret12v : Int) => (((!decide (ret12v = (0 : Int))) = true → VC9_k1 K ret12v) ∧ ((!decide (ret12v = (0 : Int))) = false → VC13 g (fun (ret17v : Bool) => (((!ret17v) = true → VC9_k1 K (3 : Int)) ∧ ((!ret17v) = false → (InR (g.1 + g.2.2.1) ∧ (((decide ((g.1 + g.2.2.1) < g.1)) = true → (InR ((0 : Int) + (1 : Int)) ∧ ((decide ((w.length : Int) = ((0 : Int) + (1 : Int)))) = true → inIdx (0 : Int) w.length) ∧ ((((decide ((w.length : Int) = ((0 : Int) + (1 : Int)))) && (decide ((w.getD ((0 : Int)).toNat (0 : Int)) = (g.1 + g.2.2.1)))) = true → VC9_k2 K (1 : Int) ([] : List ((Int × (Int × (Int × Int))) × Int))) ∧ (((decide ((w.length : Int) = ((0 : Int) + (1 : Int)))) && (decide ((w.getD ((0 : Int)).toNat (0 : Int)) = (g.1 + g.2.2.1)))) = false → VC9_k2 K (0 : Int) ([] : List ((Int × (Int × (Int × Int))) × Int)))))) ∧ ((decide ((g.1 + g.2.2.1) < g.1)) = false → (((mget ([] : List ((Int × (Int × (Int × Int))) × Int)) ((-1 : Int), ((g.1 + g.2.2.1), ((0 : Int), (w.length : Int))))).isSome = true → VC9_k2 K ((mget ([] : List ((Int × (Int × (Int × Int))) × Int)) ((-1 : Int), ((g.1 + g.2.2.1), ((0 : Int), (w.length : Int))))).getD (0 : Int)) ([] : List ((Int × (Int × (Int × Int))) × Int))) ∧ ((mget ([] : List ((Int × (Int × (Int × Int))) × Int)) ((-1 : Int), ((g.1 + g.2.2.1), ((0 : Int), (w.length : Int))))).isSome = false → Loop (σ := Int × Int × LK) (fun s X => VC9_l1 g w K s.1 s.2.1 s.2.2 X) ((0 : Int), (0 : Int), ([] : List ((Int × (Int × (Int × Int))) × Int))))))))))))))
set_option maxHeartbeats 4000000 in
theorem link9 (g : TG) (w : LI) (K : Int × Int → Prop) (h : VC9 g w K) : ACalls Try.prog 9 [toV1 tG g, toV1 (.sl tI) w] (fun res => ∃ y, res = (fun y => [toV1 tI y.1, toV1 tI y.2]) y ∧ K y) := by
 refine acalls_of_aw [tI, tI] [.t 4, .t 5] Try.func9 rfl rfl rfl ?_
 unfold VC9 at h
 refine sr ?_
 refine rqT 3 ⟨18, [e9a17 w, sp 2 2], [e9a4 g]⟩ (by kernel_rfl) ?_
 refine nsr ?_
 refine rqT 2 ⟨18, [e9a18 g, s1 11 (.pS w)], []⟩ (by kernel_rfl) ?_
 refine awl_inlr [.t 4, .t 5, .t 6] [] [.agg [.pI g.1, .pI g.2.1, .pI g.2.2.1, .p (.sl tR) g.2.2.2], .c (.pS w)] [] rfl rfl (by kernel_rfl) rfl (by kernel_rfl) Try.call22 (by kernel_rfl) (by kernel_rfl) Try.func22 rfl rfl (by kernel_rfl) ?_
 refine aw_conv [] (st' := (⟨36, [e9a20 g, e9a17 w, sA 46 [.pI g.1, .pI g.2.1, .pI g.2.2.1, .p (.sl tR) g.2.2.2], s1 47 (.pS w)], []⟩ : St)) (by kernel_rfl) ?_
 refine withJoinR (σ := Int) (fun s => (⟨36, [s1 4 (.any), sI 5 (0 : Int), sI 6 s], []⟩ : St)) (fun s => VC9_k1 K s) (fun v6 h => ?_) (fun rest1 => ?_)
 ·have h : VC9_k1 K v6 := h
  unfold VC9_k1 at h
  refine inlR_n (ob := (True ∧ True ∧ True ∧ True)) (.tup [.c (.any), .c (.pI (0 : Int)), .c (.pI v6)]) (by kernel_rfl) ⟨trivial, trivial, trivial, trivial⟩ rfl ?_
  refine lpr (st' := (⟨18, [(12, [], .tup [.c (.any), .c (.pI (0 : Int)), .c (.pI v6)])], []⟩ : St)) (by kernel_rfl) ?_
  refine rqT 7 ⟨18, [sI 7 (0 : Int), sI 8 v6], []⟩ (by kernel_rfl) ?_
  refine nsr ?_
  refine rqT 4 ⟨18, [sI 4 (0 : Int), sI 5 v6], []⟩ (by kernel_rfl) ?_
  refine nn ?_
  refine aw_ret ?_
  exact retQ_r (ob := Ts 2 True) _ (by kernel_rfl) (tsI 2 trivial) h
 ·refine srn 4 ⟨36, [e9a17 w, sp 2 2], [e9a4 g]⟩ (by kernel_rfl) rfl ?_
  refine aw_seq ?_
  refine sr ?_
  refine rqT 2 ⟨36, [e9a17 w, sp 2 2, e9a18 g, s1 11 (.pS w)], [e9a4 g]⟩ (by kernel_rfl) ?_
  refine lcq (d := 12) [.d tG, .d (.sl tI)] (fun ret12v => (⟨36, [e9a17 w, sp 2 2, sI 12 ret12v], [e9a4 g]⟩ : St)) (by kernel_rfl) Try.call12 (fun _ => by kernel_rfl) (link12 g w _ h) (fun ret12v h => ?_)
  refine rqT 1 ⟨36, [e9a17 w, sp 2 2, sI 7 ret12v], [e9a4 g]⟩ (by kernel_rfl) ?_
  refine nsr ?_
  refine rqT 2 ⟨36, [e9a17 w, sp 2 2, sI 7 ret12v, sB 14 (!decide (ret12v = (0 : Int)))], [e9a4 g]⟩ (by kernel_rfl) ?_
  refine nn ?_
  refine aw_cond (b := (!decide (ret12v = (0 : Int)))) (by kernel_rfl) (fun hb => ?_) (fun hb => ?_)
  ·have h := h.1 hb
   refine srn 4 ⟨36, [s1 4 (.any), sI 5 (0 : Int), sI 6 ret12v], []⟩ (by kernel_rfl) rfl ?_
   refine aw_ret ?_
   refine thenQ_r ?_
   exact rest1 ret12v h
  ·have h := h.2 hb
   refine aw_skip ?_
   refine thenQ_n ?_
   refine aw_seq ?_
   refine sr ?_
   refine rqT 1 ⟨36, [e9a17 w, sp 2 2, sA 16 [.pI g.1, .pI g.2.1, .pI g.2.2.1, .p (.sl tR) g.2.2.2]], [e9a4 g]⟩ (by kernel_rfl) ?_
   refine lcq (d := 17) [.d tG] (fun ret17v => (⟨36, [e9a17 w, sp 2 2, sB 17 ret17v], [e9a4 g]⟩ : St)) (by kernel_rfl) Try.call13 (fun _ => by kernel_rfl) (link13 g _ h) (fun ret17v h => ?_)
   refine rqT 1 ⟨36, [e9a17 w, sp 2 2, sB 18 (!ret17v)], [e9a4 g]⟩ (by kernel_rfl) ?_
   refine nn ?_
   refine aw_cond (b := (!ret17v)) (by kernel_rfl) (fun hb => ?_) (fun hb => ?_)
   ·have h := h.1 hb
    refine srn 3 ⟨36, [s1 4 (.any), sI 5 (0 : Int), sI 6 (3 : Int)], []⟩ (by kernel_rfl) rfl ?_
    refine aw_ret ?_
    refine thenQ_r ?_
    exact rest1 (3 : Int) h
   ·have h := h.2 hb
    refine aw_skip ?_
    refine thenQ_n ?_
    refine sr ?_
    refine rqT 2 ⟨36, [e9a17 w, sp 2 2, e9a19 g, s1 20 (.pS w)], [e9a4 g]⟩ (by kernel_rfl) ?_
    refine awl_conv [.ren 2 30100] (st' := (⟨36, [e9a17 w, sp 2 30100, e9a19 g, s1 20 (.pS w)], [e9a8 g]⟩ : St)) (by kernel_rfl) ?_
    refine awl_inlr [.t 4] [30100] [.agg [.pI g.1, .pI g.2.1, .pI g.2.2.1, .p (.sl tR) g.2.2.2], .c (.pS w)] [] rfl rfl (by kernel_rfl) rfl (by kernel_rfl) Try.call44 (by kernel_rfl) (by kernel_rfl) Try.func44 rfl rfl (by kernel_rfl) ?_
    refine aw_conv [] (st' := (⟨10, [e9a20 g, e9a17 w, s1 11 (.pS w), sp 12 30100, sA 29 [.pI g.1, .pI g.2.1, .pI g.2.2.1, .p (.sl tR) g.2.2.2], s1 30 (.pS w)], [e9a8 g]⟩ : St)) (by kernel_rfl) ?_
    refine sr ?_
    refine rqT 2 ⟨10, [e9a17 w, sp 2 2, s1 11 (.pS w), sp 12 30100], [e9a4 g, e9a8 g]⟩ (by kernel_rfl) ?_
    refine nsr ?_
    refine rqT 6 ⟨10, [sp 4 9, s1 11 (.pS w), sp 12 30100], [e9a12, e9a10 g w, e9a8 g]⟩ (by kernel_rfl) ?_
    refine nn ?_
    refine aw_ret ?_
    refine inlR_r (ob := True) (.v (.c (.ptr 9 0))) (by kernel_rfl) trivial rfl ?_
    refine lpr (st' := (⟨36, [e9a17 w, sp 2 30100, sp 21 9], [e9a12, e9a10 g w, e9a8 g]⟩ : St)) (by kernel_rfl) ?_
    refine rqT 1 ⟨36, [e9a17 w, sp 2 30100, sp 8 9], [e9a12, e9a10 g w, e9a8 g]⟩ (by kernel_rfl) ?_
    refine nsr ?_
    obtain ⟨o1, h⟩ := h
    refine rq 9 (ob := (Ts 5 (InR (g.1 + g.2.2.1) ∧ Ts 3 True))) (st' := (⟨36, [sp 8 9, sp 22 9, sI 27 (g.1 + g.2.2.1), sA 30 [.pI (0 : Int), .pI (w.length : Int)]], [e9a12, e9a10 g w]⟩ : St)) (by kernel_rfl) (tsI 5 ⟨o1, tsI 3 trivial⟩) ?_
    refine awl_conv [.ren 7 30300, .ren 9 30301] (st' := (⟨36, [sp 8 30301, sp 22 30301, sI 27 (g.1 + g.2.2.1), sA 30 [.pI (0 : Int), .pI (w.length : Int)]], [e9a2, e9a0 g w]⟩ : St)) (by kernel_rfl) ?_
    refine awl_inlr [.t 6] [30300, 30301] [.c (.ptr 30301 0), .c (.pI (g.1 + g.2.2.1)), .agg [.pI (0 : Int), .pI (w.length : Int)]] [] rfl rfl (by kernel_rfl) rfl (by kernel_rfl) Try.call45 (by kernel_rfl) (by kernel_rfl) Try.func45 rfl rfl (by kernel_rfl) ?_
    refine aw_conv [] (st' := (⟨87, [e9a22, e9a9 g, sA 2 [.pI (0 : Int), .pI (w.length : Int)], e9a15, sp 109 30301, sI 114 (g.1 + g.2.2.1), sA 117 [.pI (0 : Int), .pI (w.length : Int)]], [e9a2, e9a0 g w]⟩ : St)) (by kernel_rfl) ?_
    refine withJoinR (σ := Int × LK) (fun s => (⟨87, [sI 6 s.1, e9a15], [(30300, [], .dict (.pr tI t3) tI s.2), e9a0 g w]⟩ : St)) (fun s => VC9_k2 K s.1 s.2) (fun s h => ?_) (fun rest2 => ?_)
    ·obtain ⟨v6, l30300⟩ := s
     have h : VC9_k2 K v6 l30300 := h
     unfold VC9_k2 at h
     refine inlR_n (ob := True) (.v (.c (.pI v6))) (by kernel_rfl) trivial rfl ?_
     refine lpr (st' := (⟨36, [sp 8 30301, sI 31 v6], [e9a7 l30300, e9a0 g w]⟩ : St)) (by kernel_rfl) ?_
     refine rqT 1 ⟨36, [sp 8 30301, sI 9 v6], [e9a7 l30300, e9a0 g w]⟩ (by kernel_rfl) ?_
     refine nn ?_
     refine aw_seq ?_
     refine srn 2 ⟨36, [sp 8 30301, sI 9 v6, sB 33 (decide ((1099511627776 : Int) < v6))], [e9a7 l30300, e9a0 g w]⟩ (by kernel_rfl) rfl ?_
     refine aw_cond (b := (decide ((1099511627776 : Int) < v6))) (by kernel_rfl) (fun hb => ?_) (fun hb => ?_)
     ·have h := h.1 hb
      refine srn 3 ⟨36, [s1 4 (.any), sI 5 (0 : Int), sI 6 (1 : Int)], []⟩ (by kernel_rfl) rfl ?_
      refine aw_ret ?_
      refine thenQ_r ?_
      exact rest1 (1 : Int) h
     ·have h := h.2 hb
      refine aw_skip ?_
      refine thenQ_n ?_
      refine srn 5 ⟨36, [sp 4 30301, sI 5 v6, sI 6 (0 : Int)], [e9a7 l30300, e9a0 g w]⟩ (by kernel_rfl) rfl ?_
      refine aw_ret ?_
      refine inlR_r (ob := (True ∧ True ∧ True ∧ True)) (.tup [.c (.ptr 30301 0), .c (.pI v6), .c (.pI (0 : Int))]) (by kernel_rfl) ⟨trivial, trivial, trivial, trivial⟩ rfl ?_
      refine lpr (st' := (⟨18, [(12, [], .tup [.c (.ptr 30301 0), .c (.pI v6), .c (.pI (0 : Int))])], [e9a7 l30300, e9a0 g w]⟩ : St)) (by kernel_rfl) ?_
      refine rqT 7 ⟨18, [sI 7 v6, sI 8 (0 : Int)], []⟩ (by kernel_rfl) ?_
      refine nsr ?_
      refine rqT 4 ⟨18, [sI 4 v6, sI 5 (0 : Int)], []⟩ (by kernel_rfl) ?_
      refine nn ?_
      refine aw_ret ?_
      exact retQ_r (ob := Ts 2 True) _ (by kernel_rfl) (tsI 2 trivial) h
    ·refine srn 2 ⟨87, [e9a22, e9a9 g, sp 5 5, e9a15], [e9a6 w, e9a2, e9a0 g w]⟩ (by kernel_rfl) rfl ?_
     refine aw_seq ?_
     refine srn 7 ⟨87, [e9a22, e9a9 g, sp 5 5, sB 19 (decide ((g.1 + g.2.2.1) < g.1)), e9a15], [e9a6 w, e9a2, e9a0 g w]⟩ (by kernel_rfl) rfl ?_
     refine aw_cond (b := (decide ((g.1 + g.2.2.1) < g.1))) (by kernel_rfl) (fun hb => ?_) (fun hb => ?_)
     ·have h := h.1 hb
      refine aw_seq ?_
      refine aw_seq ?_
      refine awd_begin [] (by kernel_rfl) ?_
      obtain ⟨o1, o2, h⟩ := h
      refine drq (by kernel_rfl) [0, 1, 2, 3, 4, 5, 6, 7, 8, 9, 10, 11, 12, 13, 14, 15, 16, 17] (ob := (Ts 4 (InR ((0 : Int) + (1 : Int)) ∧ Ts 2 (Ti 6 ((decide ((w.length : Int) = ((0 : Int) + (1 : Int)))) = true → True) (((decide ((w.length : Int) = ((0 : Int) + (1 : Int)))) = true → inIdx (0 : Int) w.length) ∧ Ti 3 ((decide ((w.length : Int) = ((0 : Int) + (1 : Int)))) = true → True) (Ts 1 True)))))) (done' := [17, 16, 15, 14, 13, 12, 11, 10, 9, 8, 7, 6, 5, 4, 3, 2, 1, 0]) (st' := (⟨87, [sB 37 ((decide ((w.length : Int) = ((0 : Int) + (1 : Int)))) && (decide ((w.getD ((0 : Int)).toNat (0 : Int)) = (g.1 + g.2.2.1)))), e9a15], [e9a2, e9a0 g w]⟩ : St)) (by kernel_rfl) (tsI 4 (⟨o1, tsI 2 (tiI 6 (fun _ => trivial) ⟨o2, tiI 3 (fun _ => trivial) (tsI 1 trivial)⟩)⟩)) ?_
      refine awd_done (by kernel_rfl) ?_
      refine thenQ_n ?_
      refine aw_cond (b := ((decide ((w.length : Int) = ((0 : Int) + (1 : Int)))) && (decide ((w.getD ((0 : Int)).toNat (0 : Int)) = (g.1 + g.2.2.1))))) (by kernel_rfl) (fun hb => ?_) (fun hb => ?_)
      ·have h := h.1 hb
       refine srn 1 ⟨87, [sI 6 (1 : Int), e9a15], [e9a2, e9a0 g w]⟩ (by kernel_rfl) rfl ?_
       refine aw_ret ?_
       refine thenQ_r ?_
       refine thenQ_r ?_
       exact rest2 ((1 : Int), ([] : List ((Int × (Int × (Int × Int))) × Int))) h
      ·have h := h.2 hb
       refine aw_skip ?_
       refine thenQ_n ?_
       refine srn 1 ⟨87, [sI 6 (0 : Int), e9a15], [e9a2, e9a0 g w]⟩ (by kernel_rfl) rfl ?_
       refine aw_ret ?_
       refine thenQ_r ?_
       exact rest2 ((0 : Int), ([] : List ((Int × (Int × (Int × Int))) × Int))) h
     ·have h := h.2 hb
      refine aw_skip ?_
      refine thenQ_n ?_
      refine srn 5 ⟨87, [e9a22, e9a9 g, sp 5 5, sp 7 7, e9a15], [e9a6 w, e9a1 g w, e9a2, e9a0 g w]⟩ (by kernel_rfl) rfl ?_
      refine aw_seq ?_
      refine aw_seq ?_
      refine awd_begin [] (by kernel_rfl) ?_
      refine drq (by kernel_rfl) [0, 1, 2, 3, 4, 5, 6, 7, 8, 9, 10] (ob := (Ts 11 True)) (done' := [10, 9, 8, 7, 6, 5, 4, 3, 2, 1, 0]) (st' := (⟨87, [e9a22, e9a9 g, sp 5 5, sp 7 7, e9a14 g w, sB 9 ((mget ([] : List ((Int × (Int × (Int × Int))) × Int)) ((-1 : Int), ((g.1 + g.2.2.1), ((0 : Int), (w.length : Int))))).isSome), e9a15], [e9a6 w, e9a1 g w, e9a2, e9a0 g w]⟩ : St)) (by kernel_rfl) (tsI 11 trivial) ?_
      refine awd_done (by kernel_rfl) ?_
      refine thenQ_n ?_
      refine srn 1 ⟨87, [e9a22, e9a9 g, sp 5 5, sp 7 7, e9a14 g w, sB 50 ((mget ([] : List ((Int × (Int × (Int × Int))) × Int)) ((-1 : Int), ((g.1 + g.2.2.1), ((0 : Int), (w.length : Int))))).isSome), e9a15], [e9a6 w, e9a1 g w, e9a2, e9a0 g w]⟩ (by kernel_rfl) rfl ?_
      refine aw_cond (b := (mget ([] : List ((Int × (Int × (Int × Int))) × Int)) ((-1 : Int), ((g.1 + g.2.2.1), ((0 : Int), (w.length : Int))))).isSome) (by kernel_rfl) (fun hb => ?_) (fun hb => ?_)
      ·have h := h.1 hb
       refine srn 2 ⟨87, [sI 6 ((mget ([] : List ((Int × (Int × (Int × Int))) × Int)) ((-1 : Int), ((g.1 + g.2.2.1), ((0 : Int), (w.length : Int))))).getD (0 : Int)), e9a15], [e9a2, e9a0 g w]⟩ (by kernel_rfl) rfl ?_
       refine aw_ret ?_
       refine thenQ_r ?_
       exact rest2 (((mget ([] : List ((Int × (Int × (Int × Int))) × Int)) ((-1 : Int), ((g.1 + g.2.2.1), ((0 : Int), (w.length : Int))))).getD (0 : Int)), ([] : List ((Int × (Int × (Int × Int))) × Int))) h
      ·have h := h.2 hb
       refine aw_skip ?_
       refine thenQ_n ?_
       refine srn 1 ⟨87, [e9a22, e9a9 g, sp 5 5, sp 7 7, sI 10 (0 : Int), e9a15], [e9a6 w, e9a1 g w, e9a2, e9a0 g w]⟩ (by kernel_rfl) rfl ?_
       refine aw_seq ?_
       refine srn 7 ⟨87, [e9a22, e9a9 g, sp 5 5, sp 7 7, sI 10 (0 : Int), e9a5 g, e9a11 g, sI 58 (0 : Int), e9a15], [e9a6 w, e9a1 g w, e9a2, e9a0 g w]⟩ (by kernel_rfl) rfl ?_
       refine withJoin (σ := Int × LK) (fun s => (⟨87, [e9a22, sp 7 7, sI 10 s.1, e9a15], [e9a1 g w, (30300, [], .dict (.pr tI t3) tI s.2), e9a0 g w]⟩ : St)) (fun s => VC9_k3 g w K s.1 s.2) (fun s h => ?_) (fun rest3 => ?_)
       ·obtain ⟨n, l30300⟩ := s
        have h : VC9_k3 g w K n l30300 := h
        unfold VC9_k3 at h
        refine thenQ_n ?_
        refine aw_seq ?_
        refine awd_begin [30300] (by kernel_rfl) ?_
        refine drq (by kernel_rfl) [0, 1, 2, 3, 4, 5] (ob := (Ts 6 True)) (done' := [5, 4, 3, 2, 1, 0]) (st' := (⟨87, [sI 10 n, s1 83 (.own 30300), sA 84 [.pI (-1 : Int), .pI (g.1 + g.2.2.1), .pI (0 : Int), .pI (w.length : Int)], sI 85 n, e9a15], [e9a7 l30300, e9a0 g w]⟩ : St)) (by kernel_rfl) (tsI 6 trivial) ?_
        refine awd_one (i := 6) (by kernel_rfl) ?_
        refine dsq (ob := True) (st' := (⟨87, [sI 10 n, e9a15], [e9a16 l30300 g w n, e9a0 g w]⟩ : St)) rfl (by kernel_rfl) trivial ?_
        refine awd_done (by kernel_rfl) ?_
        refine thenQ_n ?_
        refine srn 2 ⟨87, [sI 6 n, e9a15], [e9a16 l30300 g w n, e9a0 g w]⟩ (by kernel_rfl) rfl ?_
        refine aw_ret ?_
        exact rest2 (n, (mset l30300 ((-1 : Int), ((g.1 + g.2.2.1), ((0 : Int), (w.length : Int)))) n)) h
       ·refine aw_block ?_
        refine aw_loop (σ := Int × Int × LK) (fun s => (⟨87, [e9a22, e9a9 g, sp 5 5, sp 7 7, sI 10 s.1, e9a5 g, e9a11 g, sI 58 s.2.1, e9a15], [e9a6 w, e9a1 g w, (30300, [], .dict (.pr tI t3) tI s.2.2), e9a0 g w]⟩ : St)) (fun s X => VC9_l1 g w K s.1 s.2.1 s.2.2 X) (s0 := ((0 : Int), (0 : Int), ([] : List ((Int × (Int × (Int × Int))) × Int)))) (fun s X1 h => ?_) h
        obtain ⟨n, v58, l30300⟩ := s
        have h : VC9_l1 g w K n v58 l30300 X1 := h
        unfold VC9_l1 at h
        refine srn 1 ⟨87, [e9a22, e9a9 g, sp 5 5, sp 7 7, sI 10 n, e9a5 g, e9a11 g, sI 58 v58, sB 59 (decide (v58 < (g.2.2.2.length : Int))), e9a15], [e9a6 w, e9a1 g w, e9a7 l30300, e9a0 g w]⟩ (by kernel_rfl) rfl ?_
        refine aw_seq ?_
        refine aw_cond (b := (decide (v58 < (g.2.2.2.length : Int)))) (by kernel_rfl) (fun hb => ?_) (fun hb => ?_)
        ·have h := h.1 hb
         refine aw_skip ?_
         refine thenQ_n ?_
         refine aw_seq ?_
         refine aw_block ?_
         refine sr ?_
         obtain ⟨o1, h⟩ := h
         refine rq 6 (ob := (Ts 1 (inIdx v58 g.2.2.2.length ∧ Ts 4 True))) (st' := (⟨87, [e9a22, e9a9 g, sp 5 5, sp 7 7, sI 10 n, sI 11 v58, sp 12 12, e9a5 g, e9a11 g, sI 58 v58, e9a15], [e9a6 w, e9a1 g w, hB 12 [.pI ((g.2.2.2.getD (v58).toNat ((0 : Int), ([] : LI))).1), .pS ((g.2.2.2.getD (v58).toNat ((0 : Int), ([] : LI))).2)], e9a7 l30300, e9a0 g w]⟩ : St)) (by kernel_rfl) (tsI 1 ⟨o1, tsI 4 trivial⟩) ?_
         refine nn ?_
         refine aw_seq ?_
         refine awd_begin [] (by kernel_rfl) ?_
         obtain ⟨o1, h⟩ := h
         refine drq (by kernel_rfl) [0, 1, 2, 3, 4, 5, 6, 7, 8, 9] (ob := (Ts 8 (InR ((g.1 + g.2.2.1) - g.1) ∧ Ts 1 True))) (done' := [9, 8, 7, 6, 5, 4, 3, 2, 1, 0]) (st' := (⟨87, [e9a22, e9a9 g, sp 5 5, sp 7 7, sI 10 n, sI 11 v58, e9a5 g, e9a11 g, sI 58 v58, sB 72 (decide ((g.2.2.2.getD (v58).toNat ((0 : Int), ([] : LI))).1 = ((g.1 + g.2.2.1) - g.1))), e9a15], [e9a6 w, e9a1 g w, e9a7 l30300, e9a0 g w]⟩ : St)) (by kernel_rfl) (tsI 8 ⟨o1, tsI 1 trivial⟩) ?_
         refine awd_done (by kernel_rfl) ?_
         refine thenQ_n ?_
         refine withJoin (σ := Int × LK) (fun s => (⟨87, [sp 0 70100, e9a9 g, sp 5 5, sp 7 7, sI 10 s.1, e9a5 g, e9a11 g, sI 58 v58, e9a24], [e9a6 w, e9a1 g w, e9a3 g w, (70101, [], .dict (.pr tI t3) tI s.2)]⟩ : St)) (fun s => VC9_k4 v58 X1 s.1 s.2) (fun s h => ?_) (fun rest4 => ?_)
         ·obtain ⟨n2, l70101⟩ := s
          have h : VC9_k4 v58 X1 n2 l70101 := h
          unfold VC9_k4 at h
          refine blockQ_n ?_
          refine thenQ_n ?_
          refine aw_region ?_
          obtain ⟨o1, h⟩ := h
          refine rq 2 (ob := (InR (v58 + (1 : Int)) ∧ Ts 1 True)) (st' := (⟨87, [sp 0 70100, e9a9 g, sp 5 5, sp 7 7, sI 10 n2, e9a5 g, e9a11 g, sI 58 (v58 + (1 : Int)), e9a24], [e9a6 w, e9a1 g w, e9a3 g w, (70101, [], .dict (.pr tI t3) tI l70101)]⟩ : St)) (by kernel_rfl) (⟨o1, tsI 1 trivial⟩) ?_
          refine awl_conv [.ren 70100 90100, .ren 70101 90101, .ren 90100 30301, .ren 90101 30300, .prune e9an0 [5, 7, 30300, 30301]] (st' := (⟨87, [e9a22, e9a9 g, sp 5 5, sp 7 7, sI 10 n2, e9a5 g, e9a11 g, sI 58 (v58 + (1 : Int)), e9a15], [e9a6 w, e9a1 g w, (30300, [], .dict (.pr tI t3) tI l70101), e9a0 g w]⟩ : St)) (by kernel_rfl) ?_
          refine awl_nil ?_
          exact thenQ_n ⟨(n2, (v58 + (1 : Int)), l70101), rfl, h⟩
         ·refine aw_cond (b := (decide ((g.2.2.2.getD (v58).toNat ((0 : Int), ([] : LI))).1 = ((g.1 + g.2.2.1) - g.1)))) (by kernel_rfl) (fun hb => ?_) (fun hb => ?_)
          ·have h := h.1 hb
           refine aw_region ?_
           refine rqT 4 ⟨87, [e9a22, e9a9 g, sp 5 5, sp 7 7, e9a5 g, e9a11 g, sI 58 v58, sI 73 n, sp 74 30301, sI 75 v58, e9a23 w, e9a15], [e9a6 w, e9a1 g w, e9a7 l30300, e9a0 g w]⟩ (by kernel_rfl) ?_
           refine awl_conv [.ren 30301 70100, .ren 30300 70101] (st' := (⟨87, [sp 0 70100, e9a9 g, sp 5 5, sp 7 7, e9a5 g, e9a11 g, sI 58 v58, sI 73 n, sp 74 70100, sI 75 v58, e9a23 w, e9a24], [e9a6 w, e9a1 g w, e9a21 l30300, e9a3 g w]⟩ : St)) (by kernel_rfl) ?_
           refine awl_lcall (σ := Int × LK) [70100, 70101] [70100] [.c (.ptr 70100 0), .c (.pI v58), .c (.pI (0 : Int)), .agg [.pI (0 : Int), .pI (w.length : Int)]] [] (fun ret77v => .v (.c (.pI ret77v.1))) (fun ret77v => [e9a3 g w, e9a13 ret77v]) (_) [e9a3 g w, e9a21 l30300] (fun ret77v => (⟨87, [sI 77 ret77v.1, sp 0 70100, e9a9 g, sp 5 5, sp 7 7, e9a5 g, e9a11 g, sI 58 v58, sI 73 n, sp 74 70100, sI 75 v58, e9a23 w, e9a24], [e9a3 g w, e9a13 ret77v, e9a6 w, e9a1 g w]⟩ : St)) rfl rfl (by kernel_rfl) rfl (by kernel_rfl) Try.call66 (by kernel_rfl) (by kernel_rfl) (by kernel_rfl) (fun _ _ => rfl) (fun _ => by kernel_rfl) (linkcr66 g.1 g.2.1 g.2.2.1 g.2.2.2 w v58 (0 : Int) (0 : Int) (w.length : Int) l30300 _ h) (fun ret77v h => ?_)
           refine lpr (st' := (⟨87, [sp 0 70100, e9a9 g, sp 5 5, sp 7 7, e9a5 g, e9a11 g, sI 58 v58, sI 73 n, sI 77 ret77v.1, e9a24], [e9a6 w, e9a1 g w, e9a3 g w, e9a13 ret77v]⟩ : St)) (by kernel_rfl) ?_
           refine lcq (d := 78) [.d tI, .d tI] (fun ret78v => (⟨87, [sp 0 70100, e9a9 g, sp 5 5, sp 7 7, e9a5 g, e9a11 g, sI 58 v58, sI 78 ret78v, e9a24], [e9a6 w, e9a1 g w, e9a3 g w, e9a13 ret77v]⟩ : St)) (by kernel_rfl) Try.call25 (fun _ => by kernel_rfl) (link25 n ret77v.1 _ h) (fun ret78v h => ?_)
           refine rqT 1 ⟨87, [sp 0 70100, e9a9 g, sp 5 5, sp 7 7, sI 10 ret78v, e9a5 g, e9a11 g, sI 58 v58, e9a24], [e9a6 w, e9a1 g w, e9a3 g w, e9a13 ret77v]⟩ (by kernel_rfl) ?_
           refine awl_nil ?_
           exact rest4 (ret78v, ret77v.2) h
          ·have h := h.2 hb
           refine aw_conv [.prune e9an0 [5, 7, 30300, 30301], .ren 30301 50301, .ren 30300 50300, .ren 50301 70100, .ren 50300 70101, .prune e9an0 [5, 7, 70100, 70101]] (st' := (⟨87, [sp 0 70100, e9a9 g, sp 5 5, sp 7 7, sI 10 n, e9a5 g, e9a11 g, sI 58 v58, e9a24], [e9a6 w, e9a1 g w, e9a3 g w, e9a21 l30300]⟩ : St)) (by kernel_rfl) ?_
           refine aw_skip ?_
           exact rest4 (n, l30300) h
        ·have h := h.2 hb
         refine cpr (st' := (⟨87, [e9a22, sp 7 7, sI 10 n, e9a15], [e9a1 g w, e9a7 l30300, e9a0 g w]⟩ : St)) (by kernel_rfl) ?_
         refine aw_exit ?_
         refine thenQ_x ?_
         refine thenQ_x ?_
         refine blockQ_hit ?_
         exact rest3 (n, l30300) h
abbrev e64_0 (g : TG) : Nat × Path × Con := hB 2 [.pI g.1, .pI g.2.1, .pI g.2.2.1, .p (.sl tR) g.2.2.2]
abbrev e64_1 (l : LI) : Nat × Path × AV := sI 8 (l.length : Int)
-- coppicer/coppicerref.Signs
def VC64_k1 (K : Bool → Prop) : Prop :=
  K true
def VC64_l1 (g : TG) (l : LI) (K : Bool → Prop) (v9 : Int) (X1 : Int → Prop) : Prop :=
  (((decide (v9 < (l.length : Int))) = true → (inIdx v9 l.length ∧ (((decide ((l.getD (v9).toNat (0 : Int)) < (0 : Int))) = false → InR (g.1 + g.2.1)) ∧ ((((decide ((l.getD (v9).toNat (0 : Int)) < (0 : Int))) || (decide ((g.1 + g.2.1) ≤ (l.getD (v9).toNat (0 : Int))))) = true → K false) ∧ (((decide ((l.getD (v9).toNat (0 : Int)) < (0 : Int))) || (decide ((g.1 + g.2.1) ≤ (l.getD (v9).toNat (0 : Int))))) = false → (InR (v9 + (1 : Int)) ∧ X1 (v9 + (1 : Int)))))))) ∧ ((decide (v9 < (l.length : Int))) = false → VC64_k1 K))
def VC64 (g : TG) (l : LI) (K : Bool → Prop) : Prop :=
  Loop (σ := Int) (fun s X => VC64_l1 g l K s X) (0 : Int)
set_option maxHeartbeats 4000000 in
theorem link64 (g : TG) (l : LI) (K : Bool → Prop) (h : VC64 g l K) : ACalls Try.prog 64 [toV1 tG g, toV1 (.sl tI) l] (fun res => ∃ y, res = (fun y => [toV1 .bool y]) y ∧ K y) := by
 refine acalls_of_aw [.bool] [.t 4] Try.func64 rfl rfl rfl ?_
 unfold VC64 at h
 refine srn 2 ⟨25, [s1 1 (.pS l), sp 2 2], [e64_0 g]⟩ (by kernel_rfl) rfl ?_
 refine aw_seq ?_
 refine srn 3 ⟨25, [sp 2 2, s1 7 (.pS l), e64_1 l, sI 9 (0 : Int)], [e64_0 g]⟩ (by kernel_rfl) rfl ?_
 refine withJoin (σ := Unit) (fun s => (⟨25, [], []⟩ : St)) (fun s => VC64_k1 K) (fun s h => ?_) (fun rest1 => ?_)
 ·have h : VC64_k1 K := h
  unfold VC64_k1 at h
  refine thenQ_n ?_
  refine srn 1 ⟨25, [sB 4 true], []⟩ (by kernel_rfl) rfl ?_
  refine aw_ret ?_
  exact retQ_r (ob := Ts 1 True) _ (by kernel_rfl) (tsI 1 trivial) h
 ·refine aw_block ?_
  refine aw_loop (σ := Int) (fun s => (⟨25, [sp 2 2, s1 7 (.pS l), e64_1 l, sI 9 s], [e64_0 g]⟩ : St)) (fun s X => VC64_l1 g l K s X) (s0 := (0 : Int)) (fun v9 X1 h => ?_) h
  have h : VC64_l1 g l K v9 X1 := h
  unfold VC64_l1 at h
  refine srn 1 ⟨25, [sp 2 2, s1 7 (.pS l), e64_1 l, sI 9 v9, sB 10 (decide (v9 < (l.length : Int)))], [e64_0 g]⟩ (by kernel_rfl) rfl ?_
  refine aw_seq ?_
  refine aw_cond (b := (decide (v9 < (l.length : Int)))) (by kernel_rfl) (fun hb => ?_) (fun hb => ?_)
  ·have h := h.1 hb
   refine aw_skip ?_
   refine thenQ_n ?_
   refine aw_seq ?_
   refine aw_block ?_
   refine sr ?_
   obtain ⟨o1, h⟩ := h
   refine rq 3 (ob := (inIdx v9 l.length ∧ Ts 2 True)) (st' := (⟨25, [sp 2 2, sI 6 (l.getD (v9).toNat (0 : Int)), s1 7 (.pS l), e64_1 l, sI 9 v9], [e64_0 g]⟩ : St)) (by kernel_rfl) (⟨o1, tsI 2 trivial⟩) ?_
   refine nsr ?_
   obtain ⟨o1, h⟩ := h
   refine rq 11 (ob := (Ts 3 (Ti 5 ((decide ((l.getD (v9).toNat (0 : Int)) < (0 : Int))) = false → True) (((decide ((l.getD (v9).toNat (0 : Int)) < (0 : Int))) = false → InR (g.1 + g.2.1)) ∧ ((decide ((l.getD (v9).toNat (0 : Int)) < (0 : Int))) = false → True) ∧ Ts 1 True)))) (st' := (⟨25, [sp 2 2, s1 7 (.pS l), e64_1 l, sI 9 v9, sB 23 ((decide ((l.getD (v9).toNat (0 : Int)) < (0 : Int))) || (decide ((g.1 + g.2.1) ≤ (l.getD (v9).toNat (0 : Int)))))], [e64_0 g]⟩ : St)) (by kernel_rfl) (tsI 3 (tiI 5 (fun _ => trivial) (⟨o1, ⟨(fun _ => trivial), tsI 1 trivial⟩⟩))) ?_
   refine nn ?_
   refine aw_cond (b := ((decide ((l.getD (v9).toNat (0 : Int)) < (0 : Int))) || (decide ((g.1 + g.2.1) ≤ (l.getD (v9).toNat (0 : Int)))))) (by kernel_rfl) (fun hb => ?_) (fun hb => ?_)
   ·have h := h.1 hb
    refine srn 1 ⟨25, [sB 4 false], []⟩ (by kernel_rfl) rfl ?_
    refine aw_ret ?_
    refine blockQ_r ?_
    refine thenQ_r ?_
    refine thenQ_r ?_
    refine blockQ_r ?_
    refine thenQ_r ?_
    exact retQ_r (ob := Ts 1 True) _ (by kernel_rfl) (tsI 1 trivial) h
   ·have h := h.2 hb
    refine aw_skip ?_
    refine blockQ_n ?_
    refine thenQ_n ?_
    refine aw_region ?_
    obtain ⟨o1, h⟩ := h
    refine rq 2 (ob := (InR (v9 + (1 : Int)) ∧ Ts 1 True)) (st' := (⟨25, [sp 2 2, s1 7 (.pS l), e64_1 l, sI 9 (v9 + (1 : Int))], [e64_0 g]⟩ : St)) (by kernel_rfl) (⟨o1, tsI 1 trivial⟩) ?_
    refine awl_nil ?_
    exact thenQ_n ⟨(v9 + (1 : Int)), rfl, h⟩
  ·have h := h.2 hb
   refine cpr (st' := (⟨25, [], []⟩ : St)) (by kernel_rfl) ?_
   refine aw_exit ?_
   refine thenQ_x ?_
   refine thenQ_x ?_
   refine blockQ_hit ?_
   exact rest1 () h
abbrev e41_0 (g : TG) : Nat × Path × Con := hB 1 [.pI g.1, .pI g.2.1, .pI g.2.2.1, .p (.sl tR) g.2.2.2]
abbrev e41_1 (g : TG) : Nat × Path × AV := s1 54 (.p (.sl tR) g.2.2.2)
abbrev e41_2 (g : TG) : Nat × Path × AV := s1 32 (.p (.sl tR) g.2.2.2)
abbrev e41_3 (g : TG) (v56 : Int) : Nat × Path × AV := sB 70 ((decide ((g.2.2.2.getD (v56).toNat ((0 : Int), ([] : LI))).1 < (0 : Int))) || (decide (g.2.1 ≤ (g.2.2.2.getD (v56).toNat ((0 : Int), ([] : LI))).1)))
abbrev e41_4 (g : TG) : Nat × Path × AV := sI 55 (g.2.2.2.length : Int)
abbrev e41_5 (g : TG) : Nat × Path × AV := sI 33 (g.2.2.2.length : Int)
-- coppicer/coppicerref.GrammarCheck
def VC41_k2 (K : Int → Prop) : Prop :=
  K (0 : Int)
def VC41_l1 (g : TG) (K : Int → Prop) (v56 : Int) (X1 : Int → Prop) : Prop :=
  (((decide (v56 < (g.2.2.2.length : Int))) = true → (inIdx v56 g.2.2.2.length ∧ gcall (α := Bool) (!((decide ((g.2.2.2.getD (v56).toNat ((0 : Int), ([] : LI))).1 < (0 : Int))) || (decide (g.2.1 ≤ (g.2.2.2.getD (v56).toNat ((0 : Int), ([] : LI))).1)))) (VC64 g ((g.2.2.2.getD (v56).toNat ((0 : Int), ([] : LI))).2)) false (fun (ret74v : Bool) => (((((decide ((g.2.2.2.getD (v56).toNat ((0 : Int), ([] : LI))).1 < (0 : Int))) || (decide (g.2.1 ≤ (g.2.2.2.getD (v56).toNat ((0 : Int), ([] : LI))).1))) || (!ret74v)) = true → K (2 : Int)) ∧ ((((decide ((g.2.2.2.getD (v56).toNat ((0 : Int), ([] : LI))).1 < (0 : Int))) || (decide (g.2.1 ≤ (g.2.2.2.getD (v56).toNat ((0 : Int), ([] : LI))).1))) || (!ret74v)) = false → (InR (v56 + (1 : Int)) ∧ X1 (v56 + (1 : Int)))))))) ∧ ((decide (v56 < (g.2.2.2.length : Int))) = false → VC41_k2 K))
def VC41_k1 (g : TG) (K : Int → Prop) : Prop :=
  ((((decide (g.2.2.1 < (0 : Int))) || (decide (g.2.1 ≤ g.2.2.1))) = true → K (2 : Int)) ∧ (((decide (g.2.2.1 < (0 : Int))) || (decide (g.2.1 ≤ g.2.2.1))) = false → Loop (σ := Int) (fun s X => VC41_l1 g K s X) (0 : Int)))
def VC41_l2 (g : TG) (K : Int → Prop) (v34 : Int) (X2 : Int → Prop) : Prop :=
  (((decide (v34 < (g.2.2.2.length : Int))) = true → (inIdx v34 g.2.2.2.length ∧ (((decide ((4 : Int) < (((g.2.2.2.getD (v34).toNat ((0 : Int), ([] : LI))).2).length : Int))) = true → K (1 : Int)) ∧ ((decide ((4 : Int) < (((g.2.2.2.getD (v34).toNat ((0 : Int), ([] : LI))).2).length : Int))) = false → (InR (v34 + (1 : Int)) ∧ X2 (v34 + (1 : Int))))))) ∧ ((decide (v34 < (g.2.2.2.length : Int))) = false → VC41_k1 g K))
def VC41 (g : TG) (K : Int → Prop) : Prop :=
  (((((((decide (g.1 < (1 : Int))) || (decide ((3 : Int) < g.1))) || (decide (g.2.1 < (1 : Int)))) || (decide ((5 : Int) < g.2.1))) || (decide ((10 : Int) < (g.2.2.2.length : Int)))) = true → K (1 : Int)) ∧ ((((((decide (g.1 < (1 : Int))) || (decide ((3 : Int) < g.1))) || (decide (g.2.1 < (1 : Int)))) || (decide ((5 : Int) < g.2.1))) || (decide ((10 : Int) < (g.2.2.2.length : Int)))) = false → Loop (σ := Int) (fun s X => VC41_l2 g K s X) (0 : Int)))
set_option maxHeartbeats 4000000 in
theorem link41 (g : TG) (K : Int → Prop) (h : VC41 g K) : ACalls Try.prog 41 [toV1 tG g] (fun res => ∃ y, res = (fun y => [toV1 tI y]) y ∧ K y) := by
 refine acalls_of_aw [tI] [.t 2] Try.func41 rfl rfl rfl ?_
 unfold VC41 at h
 refine srn 2 ⟨78, [sp 1 1], [e41_0 g]⟩ (by kernel_rfl) rfl ?_
 refine aw_seq ?_
 refine sr ?_
 refine rq 24 (ob := (Ts 4 (Ti 3 ((decide (g.1 < (1 : Int))) = false → True) (Ts 2 (Ti 3 (((decide (g.1 < (1 : Int))) || (decide ((3 : Int) < g.1))) = false → True) (Ts 2 (Ti 3 ((((decide (g.1 < (1 : Int))) || (decide ((3 : Int) < g.1))) || (decide (g.2.1 < (1 : Int)))) = false → True) (Ts 2 (Ti 4 (((((decide (g.1 < (1 : Int))) || (decide ((3 : Int) < g.1))) || (decide (g.2.1 < (1 : Int)))) || (decide ((5 : Int) < g.2.1))) = false → True) (Ts 1 True)))))))))) (st' := (⟨78, [sp 1 1, sB 30 (((((decide (g.1 < (1 : Int))) || (decide ((3 : Int) < g.1))) || (decide (g.2.1 < (1 : Int)))) || (decide ((5 : Int) < g.2.1))) || (decide ((10 : Int) < (g.2.2.2.length : Int))))], [e41_0 g]⟩ : St)) (by kernel_rfl) (tsI 4 (tiI 3 (fun _ => trivial) (tsI 2 (tiI 3 (fun _ => trivial) (tsI 2 (tiI 3 (fun _ => trivial) (tsI 2 (tiI 4 (fun _ => trivial) (tsI 1 trivial))))))))) ?_
 refine nn ?_
 refine aw_cond (b := (((((decide (g.1 < (1 : Int))) || (decide ((3 : Int) < g.1))) || (decide (g.2.1 < (1 : Int)))) || (decide ((5 : Int) < g.2.1))) || (decide ((10 : Int) < (g.2.2.2.length : Int))))) (by kernel_rfl) (fun hb => ?_) (fun hb => ?_)
 ·have h := h.1 hb
  refine srn 1 ⟨78, [sI 2 (1 : Int)], []⟩ (by kernel_rfl) rfl ?_
  refine aw_ret ?_
  refine thenQ_r ?_
  exact retQ_r (ob := Ts 1 True) _ (by kernel_rfl) (tsI 1 trivial) h
 ·have h := h.2 hb
  refine aw_skip ?_
  refine thenQ_n ?_
  refine aw_seq ?_
  refine srn 4 ⟨78, [sp 1 1, e41_2 g, e41_5 g, sI 34 (0 : Int)], [e41_0 g]⟩ (by kernel_rfl) rfl ?_
  refine withJoin (σ := Unit) (fun s => (⟨78, [sp 1 1], [e41_0 g]⟩ : St)) (fun s => VC41_k1 g K) (fun s h => ?_) (fun rest2 => ?_)
  ·have h : VC41_k1 g K := h
   unfold VC41_k1 at h
   refine thenQ_n ?_
   refine aw_seq ?_
   refine sr ?_
   refine rq 10 (ob := (Ts 4 (Ti 5 ((decide (g.2.2.1 < (0 : Int))) = false → True) (Ts 1 True)))) (st' := (⟨78, [sp 1 1, sB 52 ((decide (g.2.2.1 < (0 : Int))) || (decide (g.2.1 ≤ g.2.2.1)))], [e41_0 g]⟩ : St)) (by kernel_rfl) (tsI 4 (tiI 5 (fun _ => trivial) (tsI 1 trivial))) ?_
   refine nn ?_
   refine aw_cond (b := ((decide (g.2.2.1 < (0 : Int))) || (decide (g.2.1 ≤ g.2.2.1)))) (by kernel_rfl) (fun hb => ?_) (fun hb => ?_)
   ·have h := h.1 hb
    refine srn 1 ⟨78, [sI 2 (2 : Int)], []⟩ (by kernel_rfl) rfl ?_
    refine aw_ret ?_
    refine thenQ_r ?_
    exact retQ_r (ob := Ts 1 True) _ (by kernel_rfl) (tsI 1 trivial) h
   ·have h := h.2 hb
    refine aw_skip ?_
    refine thenQ_n ?_
    refine aw_seq ?_
    refine srn 4 ⟨78, [sp 1 1, e41_1 g, e41_4 g, sI 56 (0 : Int)], [e41_0 g]⟩ (by kernel_rfl) rfl ?_
    refine withJoin (σ := Unit) (fun s => (⟨78, [], []⟩ : St)) (fun s => VC41_k2 K) (fun s h => ?_) (fun rest1 => ?_)
    ·have h : VC41_k2 K := h
     unfold VC41_k2 at h
     refine thenQ_n ?_
     refine srn 1 ⟨78, [sI 2 (0 : Int)], []⟩ (by kernel_rfl) rfl ?_
     refine aw_ret ?_
     exact retQ_r (ob := Ts 1 True) _ (by kernel_rfl) (tsI 1 trivial) h
    ·refine aw_block ?_
     refine aw_loop (σ := Int) (fun s => (⟨78, [sp 1 1, e41_1 g, e41_4 g, sI 56 s], [e41_0 g]⟩ : St)) (fun s X => VC41_l1 g K s X) (s0 := (0 : Int)) (fun v56 X1 h => ?_) h
     have h : VC41_l1 g K v56 X1 := h
     unfold VC41_l1 at h
     refine srn 1 ⟨78, [sp 1 1, e41_1 g, e41_4 g, sI 56 v56, sB 57 (decide (v56 < (g.2.2.2.length : Int)))], [e41_0 g]⟩ (by kernel_rfl) rfl ?_
     refine aw_seq ?_
     refine aw_cond (b := (decide (v56 < (g.2.2.2.length : Int)))) (by kernel_rfl) (fun hb => ?_) (fun hb => ?_)
     ·have h := h.1 hb
      refine aw_skip ?_
      refine thenQ_n ?_
      refine aw_seq ?_
      refine aw_block ?_
      refine sr ?_
      obtain ⟨o1, h⟩ := h
      refine rq 4 (ob := (inIdx v56 g.2.2.2.length ∧ Ts 3 True)) (st' := (⟨78, [sp 1 1, sp 6 6, e41_1 g, e41_4 g, sI 56 v56], [e41_0 g, hB 6 [.pI ((g.2.2.2.getD (v56).toNat ((0 : Int), ([] : LI))).1), .pS ((g.2.2.2.getD (v56).toNat ((0 : Int), ([] : LI))).2)]]⟩ : St)) (by kernel_rfl) (⟨o1, tsI 3 trivial⟩) ?_
      refine nsr ?_
      refine rq 14 (ob := (Ts 4 (Ti 5 ((decide ((g.2.2.2.getD (v56).toNat ((0 : Int), ([] : LI))).1 < (0 : Int))) = false → True) (Ts 2 (Ti 3 (((decide ((g.2.2.2.getD (v56).toNat ((0 : Int), ([] : LI))).1 < (0 : Int))) || (decide (g.2.1 ≤ (g.2.2.2.getD (v56).toNat ((0 : Int), ([] : LI))).1))) = false → True) True))))) (st' := (⟨78, [sp 1 1, e41_1 g, e41_4 g, sI 56 v56, e41_3 g v56, (71, [(70, false)], .v (.agg [.pI g.1, .pI g.2.1, .pI g.2.2.1, .p (.sl tR) g.2.2.2])), (73, [(70, false)], .v (.c (.pS ((g.2.2.2.getD (v56).toNat ((0 : Int), ([] : LI))).2))))], [e41_0 g]⟩ : St)) (by kernel_rfl) (tsI 4 (tiI 5 (fun _ => trivial) (tsI 2 (tiI 3 (fun _ => trivial) trivial)))) ?_
      refine awl_callk (p := [(70, false)]) (l := [toV1 tG g, toV1 (.sl tI) ((g.2.2.2.getD (v56).toNat ((0 : Int), ([] : LI))).2)]) (cl := []) false [.d tG, .d (.sl tI)] [1, 54, 55, 56, 70, 74] [1] (fun (ret74v : Bool) => (((((decide ((g.2.2.2.getD (v56).toNat ((0 : Int), ([] : LI))).1 < (0 : Int))) || (decide (g.2.1 ≤ (g.2.2.2.getD (v56).toNat ((0 : Int), ([] : LI))).1))) || (!ret74v)) = true → K (2 : Int)) ∧ ((((decide ((g.2.2.2.getD (v56).toNat ((0 : Int), ([] : LI))).1 < (0 : Int))) || (decide (g.2.1 ≤ (g.2.2.2.getD (v56).toNat ((0 : Int), ([] : LI))).1))) || (!ret74v)) = false → (InR (v56 + (1 : Int)) ∧ X1 (v56 + (1 : Int)))))) (fun ret74v => [toV1 .bool ret74v]) (fun ret74v => (⟨78, [sp 1 1, e41_1 g, e41_4 g, sI 56 v56, e41_3 g v56, (74, [(70, false)], .v (.c (.pB ret74v)))], [e41_0 g]⟩ : St)) (by kernel_rfl) rfl (by kernel_rfl) rfl (by kernel_rfl) Try.call64 (by kernel_rfl) (fun ret74v => by kernel_rfl) (fun e => by cases e) (fun hg => link64 g ((g.2.2.2.getD (v56).toNat ((0 : Int), ([] : LI))).2) _ (by have := gcall_T h (show (!((decide ((g.2.2.2.getD (v56).toNat ((0 : Int), ([] : LI))).1 < (0 : Int))) || (decide (g.2.1 ≤ (g.2.2.2.getD (v56).toNat ((0 : Int), ([] : LI))).1)))) = true from hg); exact this)) (fun hg => ⟨false, by have := gcall_F h (show (!((decide ((g.2.2.2.getD (v56).toNat ((0 : Int), ([] : LI))).1 < (0 : Int))) || (decide (g.2.1 ≤ (g.2.2.2.getD (v56).toNat ((0 : Int), ([] : LI))).1)))) = false from hg); exact this⟩) (fun ret74v h => ?_)
      refine rq 2 (ob := ((((decide ((g.2.2.2.getD (v56).toNat ((0 : Int), ([] : LI))).1 < (0 : Int))) || (decide (g.2.1 ≤ (g.2.2.2.getD (v56).toNat ((0 : Int), ([] : LI))).1))) = false → True) ∧ Ts 1 True)) (st' := (⟨78, [sp 1 1, e41_1 g, e41_4 g, sI 56 v56, sB 76 (((decide ((g.2.2.2.getD (v56).toNat ((0 : Int), ([] : LI))).1 < (0 : Int))) || (decide (g.2.1 ≤ (g.2.2.2.getD (v56).toNat ((0 : Int), ([] : LI))).1))) || (!ret74v))], [e41_0 g]⟩ : St)) (by kernel_rfl) (⟨(fun _ => trivial), tsI 1 trivial⟩) ?_
      refine nn ?_
      refine aw_cond (b := (((decide ((g.2.2.2.getD (v56).toNat ((0 : Int), ([] : LI))).1 < (0 : Int))) || (decide (g.2.1 ≤ (g.2.2.2.getD (v56).toNat ((0 : Int), ([] : LI))).1))) || (!ret74v))) (by kernel_rfl) (fun hb => ?_) (fun hb => ?_)
      ·have h := h.1 hb
       refine srn 1 ⟨78, [sI 2 (2 : Int)], []⟩ (by kernel_rfl) rfl ?_
       refine aw_ret ?_
       refine blockQ_r ?_
       refine thenQ_r ?_
       refine thenQ_r ?_
       refine blockQ_r ?_
       refine thenQ_r ?_
       exact retQ_r (ob := Ts 1 True) _ (by kernel_rfl) (tsI 1 trivial) h
      ·have h := h.2 hb
       refine aw_skip ?_
       refine blockQ_n ?_
       refine thenQ_n ?_
       refine aw_region ?_
       obtain ⟨o1, h⟩ := h
       refine rq 2 (ob := (InR (v56 + (1 : Int)) ∧ Ts 1 True)) (st' := (⟨78, [sp 1 1, e41_1 g, e41_4 g, sI 56 (v56 + (1 : Int))], [e41_0 g]⟩ : St)) (by kernel_rfl) (⟨o1, tsI 1 trivial⟩) ?_
       refine awl_nil ?_
       exact thenQ_n ⟨(v56 + (1 : Int)), rfl, h⟩
     ·have h := h.2 hb
      refine cpr (st' := (⟨78, [], []⟩ : St)) (by kernel_rfl) ?_
      refine aw_exit ?_
      refine thenQ_x ?_
      refine thenQ_x ?_
      refine blockQ_hit ?_
      exact rest1 () h
  ·refine aw_block ?_
   refine aw_loop (σ := Int) (fun s => (⟨78, [sp 1 1, e41_2 g, e41_5 g, sI 34 s], [e41_0 g]⟩ : St)) (fun s X => VC41_l2 g K s X) (s0 := (0 : Int)) (fun v34 X2 h => ?_) h
   have h : VC41_l2 g K v34 X2 := h
   unfold VC41_l2 at h
   refine srn 1 ⟨78, [sp 1 1, e41_2 g, e41_5 g, sI 34 v34, sB 35 (decide (v34 < (g.2.2.2.length : Int)))], [e41_0 g]⟩ (by kernel_rfl) rfl ?_
   refine aw_seq ?_
   refine aw_cond (b := (decide (v34 < (g.2.2.2.length : Int)))) (by kernel_rfl) (fun hb => ?_) (fun hb => ?_)
   ·have h := h.1 hb
    refine aw_skip ?_
    refine thenQ_n ?_
    refine aw_seq ?_
    refine aw_block ?_
    refine sr ?_
    obtain ⟨o1, h⟩ := h
    refine rq 4 (ob := (inIdx v34 g.2.2.2.length ∧ Ts 3 True)) (st' := (⟨78, [sp 1 1, sp 4 4, e41_2 g, e41_5 g, sI 34 v34], [e41_0 g, hB 4 [.pI ((g.2.2.2.getD (v34).toNat ((0 : Int), ([] : LI))).1), .pS ((g.2.2.2.getD (v34).toNat ((0 : Int), ([] : LI))).2)]]⟩ : St)) (by kernel_rfl) (⟨o1, tsI 3 trivial⟩) ?_
    refine nsr ?_
    refine rqT 4 ⟨78, [sp 1 1, e41_2 g, e41_5 g, sI 34 v34, sB 41 (decide ((4 : Int) < (((g.2.2.2.getD (v34).toNat ((0 : Int), ([] : LI))).2).length : Int)))], [e41_0 g]⟩ (by kernel_rfl) ?_
    refine nn ?_
    refine aw_cond (b := (decide ((4 : Int) < (((g.2.2.2.getD (v34).toNat ((0 : Int), ([] : LI))).2).length : Int)))) (by kernel_rfl) (fun hb => ?_) (fun hb => ?_)
    ·have h := h.1 hb
     refine srn 1 ⟨78, [sI 2 (1 : Int)], []⟩ (by kernel_rfl) rfl ?_
     refine aw_ret ?_
     refine blockQ_r ?_
     refine thenQ_r ?_
     refine thenQ_r ?_
     refine blockQ_r ?_
     refine thenQ_r ?_
     exact retQ_r (ob := Ts 1 True) _ (by kernel_rfl) (tsI 1 trivial) h
    ·have h := h.2 hb
     refine aw_skip ?_
     refine blockQ_n ?_
     refine thenQ_n ?_
     refine aw_region ?_
     obtain ⟨o1, h⟩ := h
     refine rq 2 (ob := (InR (v34 + (1 : Int)) ∧ Ts 1 True)) (st' := (⟨78, [sp 1 1, e41_2 g, e41_5 g, sI 34 (v34 + (1 : Int))], [e41_0 g]⟩ : St)) (by kernel_rfl) (⟨o1, tsI 1 trivial⟩) ?_
     refine awl_nil ?_
     exact thenQ_n ⟨(v34 + (1 : Int)), rfl, h⟩
   ·have h := h.2 hb
    refine cpr (st' := (⟨78, [sp 1 1], [e41_0 g]⟩ : St)) (by kernel_rfl) ?_
    refine aw_exit ?_
    refine thenQ_x ?_
    refine thenQ_x ?_
    refine blockQ_hit ?_
    exact rest2 () h
abbrev e42_0 (w : LI) : Nat × Path × AV := sI 11 (w.length : Int)
-- coppicer/coppicerref.WordCheck
def VC42_k1 (K : Int → Prop) : Prop :=
  K (0 : Int)
def VC42_l1 (k : Int) (w : LI) (K : Int → Prop) (v12 : Int) (X1 : Int → Prop) : Prop :=
  (((decide (v12 < (w.length : Int))) = true → (inIdx v12 w.length ∧ ((((decide ((w.getD (v12).toNat (0 : Int)) < (0 : Int))) || (decide (k ≤ (w.getD (v12).toNat (0 : Int))))) = true → K (2 : Int)) ∧ (((decide ((w.getD (v12).toNat (0 : Int)) < (0 : Int))) || (decide (k ≤ (w.getD (v12).toNat (0 : Int))))) = false → (InR (v12 + (1 : Int)) ∧ X1 (v12 + (1 : Int))))))) ∧ ((decide (v12 < (w.length : Int))) = false → VC42_k1 K))
def VC42 (k : Int) (w : LI) (K : Int → Prop) : Prop :=
  (((decide ((12 : Int) < (w.length : Int))) = true → K (1 : Int)) ∧ ((decide ((12 : Int) < (w.length : Int))) = false → Loop (σ := Int) (fun s X => VC42_l1 k w K s X) (0 : Int)))
set_option maxHeartbeats 4000000 in
theorem link42 (k : Int) (w : LI) (K : Int → Prop) (h : VC42 k w K) : ACalls Try.prog 42 [toV1 tI k, toV1 (.sl tI) w] (fun res => ∃ y, res = (fun y => [toV1 tI y]) y ∧ K y) := by
 refine acalls_of_aw [tI] [.t 4] Try.func42 rfl rfl rfl ?_
 unfold VC42 at h
 refine srn 1 ⟨24, [sI 0 k, s1 1 (.pS w)], []⟩ (by kernel_rfl) rfl ?_
 refine aw_seq ?_
 refine srn 3 ⟨24, [sI 0 k, s1 1 (.pS w), sB 9 (decide ((12 : Int) < (w.length : Int)))], []⟩ (by kernel_rfl) rfl ?_
 refine aw_cond (b := (decide ((12 : Int) < (w.length : Int)))) (by kernel_rfl) (fun hb => ?_) (fun hb => ?_)
 ·have h := h.1 hb
  refine srn 1 ⟨24, [sI 4 (1 : Int)], []⟩ (by kernel_rfl) rfl ?_
  refine aw_ret ?_
  refine thenQ_r ?_
  exact retQ_r (ob := Ts 1 True) _ (by kernel_rfl) (tsI 1 trivial) h
 ·have h := h.2 hb
  refine aw_skip ?_
  refine thenQ_n ?_
  refine aw_seq ?_
  refine srn 3 ⟨24, [sI 0 k, s1 10 (.pS w), e42_0 w, sI 12 (0 : Int)], []⟩ (by kernel_rfl) rfl ?_
  refine withJoin (σ := Unit) (fun s => (⟨24, [], []⟩ : St)) (fun s => VC42_k1 K) (fun s h => ?_) (fun rest1 => ?_)
  ·have h : VC42_k1 K := h
   unfold VC42_k1 at h
   refine thenQ_n ?_
   refine srn 1 ⟨24, [sI 4 (0 : Int)], []⟩ (by kernel_rfl) rfl ?_
   refine aw_ret ?_
   exact retQ_r (ob := Ts 1 True) _ (by kernel_rfl) (tsI 1 trivial) h
  ·refine aw_block ?_
   refine aw_loop (σ := Int) (fun s => (⟨24, [sI 0 k, s1 10 (.pS w), e42_0 w, sI 12 s], []⟩ : St)) (fun s X => VC42_l1 k w K s X) (s0 := (0 : Int)) (fun v12 X1 h => ?_) h
   have h : VC42_l1 k w K v12 X1 := h
   unfold VC42_l1 at h
   refine srn 1 ⟨24, [sI 0 k, s1 10 (.pS w), e42_0 w, sI 12 v12, sB 13 (decide (v12 < (w.length : Int)))], []⟩ (by kernel_rfl) rfl ?_
   refine aw_seq ?_
   refine aw_cond (b := (decide (v12 < (w.length : Int)))) (by kernel_rfl) (fun hb => ?_) (fun hb => ?_)
   ·have h := h.1 hb
    refine aw_skip ?_
    refine thenQ_n ?_
    refine aw_seq ?_
    refine aw_block ?_
    refine sr ?_
    obtain ⟨o1, h⟩ := h
    refine rq 3 (ob := (inIdx v12 w.length ∧ Ts 2 True)) (st' := (⟨24, [sI 0 k, sI 6 (w.getD (v12).toNat (0 : Int)), s1 10 (.pS w), e42_0 w, sI 12 v12], []⟩ : St)) (by kernel_rfl) (⟨o1, tsI 2 trivial⟩) ?_
    refine nsr ?_
    refine rq 7 (ob := (Ts 3 (Ti 3 ((decide ((w.getD (v12).toNat (0 : Int)) < (0 : Int))) = false → True) (Ts 1 True)))) (st' := (⟨24, [sI 0 k, s1 10 (.pS w), e42_0 w, sI 12 v12, sB 22 ((decide ((w.getD (v12).toNat (0 : Int)) < (0 : Int))) || (decide (k ≤ (w.getD (v12).toNat (0 : Int)))))], []⟩ : St)) (by kernel_rfl) (tsI 3 (tiI 3 (fun _ => trivial) (tsI 1 trivial))) ?_
    refine nn ?_
    refine aw_cond (b := ((decide ((w.getD (v12).toNat (0 : Int)) < (0 : Int))) || (decide (k ≤ (w.getD (v12).toNat (0 : Int)))))) (by kernel_rfl) (fun hb => ?_) (fun hb => ?_)
    ·have h := h.1 hb
     refine srn 1 ⟨24, [sI 4 (2 : Int)], []⟩ (by kernel_rfl) rfl ?_
     refine aw_ret ?_
     refine blockQ_r ?_
     refine thenQ_r ?_
     refine thenQ_r ?_
     refine blockQ_r ?_
     refine thenQ_r ?_
     exact retQ_r (ob := Ts 1 True) _ (by kernel_rfl) (tsI 1 trivial) h
    ·have h := h.2 hb
     refine aw_skip ?_
     refine blockQ_n ?_
     refine thenQ_n ?_
     refine aw_region ?_
     obtain ⟨o1, h⟩ := h
     refine rq 2 (ob := (InR (v12 + (1 : Int)) ∧ Ts 1 True)) (st' := (⟨24, [sI 0 k, s1 10 (.pS w), e42_0 w, sI 12 (v12 + (1 : Int))], []⟩ : St)) (by kernel_rfl) (⟨o1, tsI 1 trivial⟩) ?_
     refine awl_nil ?_
     exact thenQ_n ⟨(v12 + (1 : Int)), rfl, h⟩
   ·have h := h.2 hb
    refine cpr (st' := (⟨24, [], []⟩ : St)) (by kernel_rfl) ?_
    refine aw_exit ?_
    refine thenQ_x ?_
    refine thenQ_x ?_
    refine blockQ_hit ?_
    exact rest1 () h
abbrev e18_0 (g : TG) : Nat × Path × Con := hB 2 [.pI g.1, .pI g.2.1, .pI g.2.2.1, .p (.sl tR) g.2.2.2]
-- coppicer/coppicerkeep.grown
def VC18 (g : TG) (w : LI) (K : Bool → Prop) : Prop :=
  VC41 g (fun (ret6v : Int) => gcall (α := Int) (decide (ret6v = (0 : Int))) (VC42 g.1 w) (0 : Int) (fun (ret12v : Int) => K ((decide (ret6v = (0 : Int))) && (decide (ret12v = (0 : Int))))))
set_option maxHeartbeats 4000000 in
theorem link18 (g : TG) (w : LI) (K : Bool → Prop) (h : VC18 g w K) : ACalls Try.prog 18 [toV1 tG g, toV1 (.sl tI) w] (fun res => ∃ y, res = (fun y => [toV1 .bool y]) y ∧ K y) := by
 refine acalls_of_aw [.bool] [.t 4] Try.func18 rfl rfl rfl ?_
 unfold VC18 at h
 refine sr ?_
 refine rqT 2 ⟨15, [s1 1 (.pS w), sp 2 2], [e18_0 g]⟩ (by kernel_rfl) ?_
 refine nsr ?_
 refine rqT 1 ⟨15, [s1 1 (.pS w), sp 2 2, sA 5 [.pI g.1, .pI g.2.1, .pI g.2.2.1, .p (.sl tR) g.2.2.2]], [e18_0 g]⟩ (by kernel_rfl) ?_
 refine lcq (d := 6) [.d tG] (fun ret6v => (⟨15, [s1 1 (.pS w), sp 2 2, sI 6 ret6v], [e18_0 g]⟩ : St)) (by kernel_rfl) Try.call41 (fun _ => by kernel_rfl) (link41 g _ h) (fun ret6v h => ?_)
 refine rq 5 (ob := (Ts 2 (Ti 3 ((decide (ret6v = (0 : Int))) = true → True) True))) (st' := (⟨15, [sB 8 (decide (ret6v = (0 : Int))), (10, [(8, true)], .v (.c (.pI g.1))), (11, [(8, true)], .v (.c (.pS w)))], []⟩ : St)) (by kernel_rfl) (tsI 2 (tiI 3 (fun _ => trivial) trivial)) ?_
 refine awl_callk (p := [(8, true)]) (l := [toV1 tI g.1, toV1 (.sl tI) w]) (cl := []) false [.d tI, .d (.sl tI)] [8, 12] [] (fun (ret12v : Int) => K ((decide (ret6v = (0 : Int))) && (decide (ret12v = (0 : Int))))) (fun ret12v => [toV1 tI ret12v]) (fun ret12v => (⟨15, [sB 8 (decide (ret6v = (0 : Int))), (12, [(8, true)], .v (.c (.pI ret12v)))], []⟩ : St)) (by kernel_rfl) rfl (by kernel_rfl) rfl (by kernel_rfl) Try.call42 (by kernel_rfl) (fun ret12v => by kernel_rfl) (fun e => by cases e) (fun hg => link42 g.1 w _ (by have := gcall_T h (show (decide (ret6v = (0 : Int))) = true from hg); exact this)) (fun hg => ⟨(0 : Int), by have := gcall_F h (show (decide (ret6v = (0 : Int))) = false from hg); exact this⟩) (fun ret12v h => ?_)
 refine rq 3 (ob := (((decide (ret6v = (0 : Int))) = true → True) ∧ Ts 2 True)) (st' := (⟨15, [sB 4 ((decide (ret6v = (0 : Int))) && (decide (ret12v = (0 : Int))))], []⟩ : St)) (by kernel_rfl) (⟨(fun _ => trivial), tsI 2 trivial⟩) ?_
 refine nn ?_
 refine aw_ret ?_
 exact retQ_r (ob := Ts 1 True) _ (by kernel_rfl) (tsI 1 trivial) h
abbrev e19_0 (g : TG) : Nat × Path × Con := hB 1 [.pI g.1, .pI g.2.1, .pI g.2.2.1, .p (.sl tR) g.2.2.2]
abbrev e19_1 (g : TG) : Nat × Path × AV := s1 6 (.p (.sl tR) g.2.2.2)
abbrev e19_2 (g : TG) : Nat × Path × AV := sI 7 (g.2.2.2.length : Int)
-- coppicer/coppicerref.Proper
def VC19_k1 (K : Bool → Prop) : Prop :=
  K true
def VC19_l1 (g : TG) (K : Bool → Prop) (v8 : Int) (X1 : Int → Prop) : Prop :=
  (((decide (v8 < (g.2.2.2.length : Int))) = true → (inIdx v8 g.2.2.2.length ∧ (((decide ((((g.2.2.2.getD (v8).toNat ((0 : Int), ([] : LI))).2).length : Int) = (0 : Int))) = false → ((decide ((((g.2.2.2.getD (v8).toNat ((0 : Int), ([] : LI))).2).length : Int) = (1 : Int))) = true → inIdx (0 : Int) ((g.2.2.2.getD (v8).toNat ((0 : Int), ([] : LI))).2).length)) ∧ ((((decide ((((g.2.2.2.getD (v8).toNat ((0 : Int), ([] : LI))).2).length : Int) = (0 : Int))) || ((decide ((((g.2.2.2.getD (v8).toNat ((0 : Int), ([] : LI))).2).length : Int) = (1 : Int))) && (decide (g.1 ≤ (((g.2.2.2.getD (v8).toNat ((0 : Int), ([] : LI))).2).getD ((0 : Int)).toNat (0 : Int)))))) = true → K false) ∧ (((decide ((((g.2.2.2.getD (v8).toNat ((0 : Int), ([] : LI))).2).length : Int) = (0 : Int))) || ((decide ((((g.2.2.2.getD (v8).toNat ((0 : Int), ([] : LI))).2).length : Int) = (1 : Int))) && (decide (g.1 ≤ (((g.2.2.2.getD (v8).toNat ((0 : Int), ([] : LI))).2).getD ((0 : Int)).toNat (0 : Int)))))) = false → (InR (v8 + (1 : Int)) ∧ X1 (v8 + (1 : Int)))))))) ∧ ((decide (v8 < (g.2.2.2.length : Int))) = false → VC19_k1 K))
def VC19 (g : TG) (K : Bool → Prop) : Prop :=
  Loop (σ := Int) (fun s X => VC19_l1 g K s X) (0 : Int)
set_option maxHeartbeats 4000000 in
theorem link19 (g : TG) (K : Bool → Prop) (h : VC19 g K) : ACalls Try.prog 19 [toV1 tG g] (fun res => ∃ y, res = (fun y => [toV1 .bool y]) y ∧ K y) := by
 refine acalls_of_aw [.bool] [.t 2] Try.func19 rfl rfl rfl ?_
 unfold VC19 at h
 refine srn 2 ⟨32, [sp 1 1], [e19_0 g]⟩ (by kernel_rfl) rfl ?_
 refine aw_seq ?_
 refine srn 4 ⟨32, [sp 1 1, e19_1 g, e19_2 g, sI 8 (0 : Int)], [e19_0 g]⟩ (by kernel_rfl) rfl ?_
 refine withJoin (σ := Unit) (fun s => (⟨32, [], []⟩ : St)) (fun s => VC19_k1 K) (fun s h => ?_) (fun rest1 => ?_)
 ·have h : VC19_k1 K := h
  unfold VC19_k1 at h
  refine thenQ_n ?_
  refine srn 1 ⟨32, [sB 2 true], []⟩ (by kernel_rfl) rfl ?_
  refine aw_ret ?_
  exact retQ_r (ob := Ts 1 True) _ (by kernel_rfl) (tsI 1 trivial) h
 ·refine aw_block ?_
  refine aw_loop (σ := Int) (fun s => (⟨32, [sp 1 1, e19_1 g, e19_2 g, sI 8 s], [e19_0 g]⟩ : St)) (fun s X => VC19_l1 g K s X) (s0 := (0 : Int)) (fun v8 X1 h => ?_) h
  have h : VC19_l1 g K v8 X1 := h
  unfold VC19_l1 at h
  refine srn 1 ⟨32, [sp 1 1, e19_1 g, e19_2 g, sI 8 v8, sB 9 (decide (v8 < (g.2.2.2.length : Int)))], [e19_0 g]⟩ (by kernel_rfl) rfl ?_
  refine aw_seq ?_
  refine aw_cond (b := (decide (v8 < (g.2.2.2.length : Int)))) (by kernel_rfl) (fun hb => ?_) (fun hb => ?_)
  ·have h := h.1 hb
   refine aw_skip ?_
   refine thenQ_n ?_
   refine aw_seq ?_
   refine aw_block ?_
   refine sr ?_
   obtain ⟨o1, h⟩ := h
   refine rq 4 (ob := (inIdx v8 g.2.2.2.length ∧ Ts 3 True)) (st' := (⟨32, [sp 1 1, sp 4 4, e19_1 g, e19_2 g, sI 8 v8], [e19_0 g, hB 4 [.pI ((g.2.2.2.getD (v8).toNat ((0 : Int), ([] : LI))).1), .pS ((g.2.2.2.getD (v8).toNat ((0 : Int), ([] : LI))).2)]]⟩ : St)) (by kernel_rfl) (⟨o1, tsI 3 trivial⟩) ?_
   refine nn ?_
   refine aw_seq ?_
   refine awd_begin [] (by kernel_rfl) ?_
   obtain ⟨o1, h⟩ := h
   refine drq (by kernel_rfl) [0, 1, 2, 3, 4, 5, 6, 7, 8, 9, 10, 11, 12, 13, 14, 15, 16, 17, 18] (ob := (Ts 5 (Ti 5 ((decide ((((g.2.2.2.getD (v8).toNat ((0 : Int), ([] : LI))).2).length : Int) = (0 : Int))) = false → True) (((decide ((((g.2.2.2.getD (v8).toNat ((0 : Int), ([] : LI))).2).length : Int) = (0 : Int))) = false → ((decide ((((g.2.2.2.getD (v8).toNat ((0 : Int), ([] : LI))).2).length : Int) = (1 : Int))) = true → True)) ∧ ((decide ((((g.2.2.2.getD (v8).toNat ((0 : Int), ([] : LI))).2).length : Int) = (0 : Int))) = false → ((decide ((((g.2.2.2.getD (v8).toNat ((0 : Int), ([] : LI))).2).length : Int) = (1 : Int))) = true → True)) ∧ ((decide ((((g.2.2.2.getD (v8).toNat ((0 : Int), ([] : LI))).2).length : Int) = (0 : Int))) = false → ((decide ((((g.2.2.2.getD (v8).toNat ((0 : Int), ([] : LI))).2).length : Int) = (1 : Int))) = true → inIdx (0 : Int) ((g.2.2.2.getD (v8).toNat ((0 : Int), ([] : LI))).2).length)) ∧ ((decide ((((g.2.2.2.getD (v8).toNat ((0 : Int), ([] : LI))).2).length : Int) = (0 : Int))) = false → ((decide ((((g.2.2.2.getD (v8).toNat ((0 : Int), ([] : LI))).2).length : Int) = (1 : Int))) = true → True)) ∧ ((decide ((((g.2.2.2.getD (v8).toNat ((0 : Int), ([] : LI))).2).length : Int) = (0 : Int))) = false → ((decide ((((g.2.2.2.getD (v8).toNat ((0 : Int), ([] : LI))).2).length : Int) = (1 : Int))) = true → True)) ∧ ((decide ((((g.2.2.2.getD (v8).toNat ((0 : Int), ([] : LI))).2).length : Int) = (0 : Int))) = false → ((decide ((((g.2.2.2.getD (v8).toNat ((0 : Int), ([] : LI))).2).length : Int) = (1 : Int))) = true → True)) ∧ ((decide ((((g.2.2.2.getD (v8).toNat ((0 : Int), ([] : LI))).2).length : Int) = (0 : Int))) = false → ((decide ((((g.2.2.2.getD (v8).toNat ((0 : Int), ([] : LI))).2).length : Int) = (1 : Int))) = true → True)) ∧ ((decide ((((g.2.2.2.getD (v8).toNat ((0 : Int), ([] : LI))).2).length : Int) = (0 : Int))) = false → True) ∧ Ts 1 True)))) (done' := [18, 17, 16, 15, 14, 13, 12, 11, 10, 9, 8, 7, 6, 5, 4, 3, 2, 1, 0]) (st' := (⟨32, [sp 1 1, e19_1 g, e19_2 g, sI 8 v8, sB 30 ((decide ((((g.2.2.2.getD (v8).toNat ((0 : Int), ([] : LI))).2).length : Int) = (0 : Int))) || ((decide ((((g.2.2.2.getD (v8).toNat ((0 : Int), ([] : LI))).2).length : Int) = (1 : Int))) && (decide (g.1 ≤ (((g.2.2.2.getD (v8).toNat ((0 : Int), ([] : LI))).2).getD ((0 : Int)).toNat (0 : Int))))))], [e19_0 g]⟩ : St)) (by kernel_rfl) (tsI 5 (tiI 5 (fun _ => trivial) (tiI 2 (fun _ _ => trivial) (⟨o1, tiI 4 (fun _ _ => trivial) ⟨(fun _ => trivial), tsI 1 trivial⟩⟩)))) ?_
   refine awd_done (by kernel_rfl) ?_
   refine thenQ_n ?_
   refine aw_cond (b := ((decide ((((g.2.2.2.getD (v8).toNat ((0 : Int), ([] : LI))).2).length : Int) = (0 : Int))) || ((decide ((((g.2.2.2.getD (v8).toNat ((0 : Int), ([] : LI))).2).length : Int) = (1 : Int))) && (decide (g.1 ≤ (((g.2.2.2.getD (v8).toNat ((0 : Int), ([] : LI))).2).getD ((0 : Int)).toNat (0 : Int))))))) (by kernel_rfl) (fun hb => ?_) (fun hb => ?_)
   ·have h := h.1 hb
    refine srn 1 ⟨32, [sB 2 false], []⟩ (by kernel_rfl) rfl ?_
    refine aw_ret ?_
    refine blockQ_r ?_
    refine thenQ_r ?_
    refine thenQ_r ?_
    refine blockQ_r ?_
    refine thenQ_r ?_
    exact retQ_r (ob := Ts 1 True) _ (by kernel_rfl) (tsI 1 trivial) h
   ·have h := h.2 hb
    refine aw_skip ?_
    refine blockQ_n ?_
    refine thenQ_n ?_
    refine aw_region ?_
    obtain ⟨o1, h⟩ := h
    refine rq 2 (ob := (InR (v8 + (1 : Int)) ∧ Ts 1 True)) (st' := (⟨32, [sp 1 1, e19_1 g, e19_2 g, sI 8 (v8 + (1 : Int))], [e19_0 g]⟩ : St)) (by kernel_rfl) (⟨o1, tsI 1 trivial⟩) ?_
    refine awl_nil ?_
    exact thenQ_n ⟨(v8 + (1 : Int)), rfl, h⟩
  ·have h := h.2 hb
   refine cpr (st' := (⟨32, [], []⟩ : St)) (by kernel_rfl) ?_
   refine aw_exit ?_
   refine thenQ_x ?_
   refine thenQ_x ?_
   refine blockQ_hit ?_
   exact rest1 () h
-- coppicer/coppicerref.capped
def VC65 (a : Int) (b : Int) (K : Int → Prop) : Prop :=
  ((((decide (a = (0 : Int))) || (decide (b = (0 : Int)))) = true → K (0 : Int)) ∧ (((decide (a = (0 : Int))) || (decide (b = (0 : Int)))) = false → ((0 ≤ (1099511627777 : Int) ∧ 0 < b) ∧ (((decide (((1099511627777 : Int) / b) < a)) = true → K (1099511627777 : Int)) ∧ ((decide (((1099511627777 : Int) / b) < a)) = false → (InR (a * b) ∧ K (a * b)))))))
set_option maxHeartbeats 4000000 in
theorem link65 (a : Int) (b : Int) (K : Int → Prop) (h : VC65 a b K) : ACalls Try.prog 65 [toV1 tI a, toV1 tI b] (fun res => ∃ y, res = (fun y => [toV1 tI y]) y ∧ K y) := by
 refine acalls_of_aw [tI] [.t 4] Try.func65 rfl rfl rfl ?_
 unfold VC65 at h
 refine srn 1 ⟨18, [sI 0 a, sI 1 b], []⟩ (by kernel_rfl) rfl ?_
 refine aw_seq ?_
 refine sr ?_
 refine rq 6 (ob := (Ts 3 (Ti 2 ((decide (a = (0 : Int))) = false → True) (Ts 1 True)))) (st' := (⟨18, [sI 0 a, sI 1 b, sB 10 ((decide (a = (0 : Int))) || (decide (b = (0 : Int))))], []⟩ : St)) (by kernel_rfl) (tsI 3 (tiI 2 (fun _ => trivial) (tsI 1 trivial))) ?_
 refine nn ?_
 refine aw_cond (b := ((decide (a = (0 : Int))) || (decide (b = (0 : Int))))) (by kernel_rfl) (fun hb => ?_) (fun hb => ?_)
 ·have h := h.1 hb
  refine srn 1 ⟨18, [sI 4 (0 : Int)], []⟩ (by kernel_rfl) rfl ?_
  refine aw_ret ?_
  refine thenQ_r ?_
  exact retQ_r (ob := Ts 1 True) _ (by kernel_rfl) (tsI 1 trivial) h
 ·have h := h.2 hb
  refine aw_skip ?_
  refine thenQ_n ?_
  refine aw_seq ?_
  refine sr ?_
  obtain ⟨o1, h⟩ := h
  refine rq 4 (ob := (Ts 2 ((0 ≤ (1099511627777 : Int) ∧ 0 < b) ∧ Ts 1 True))) (st' := (⟨18, [sI 0 a, sI 1 b, sB 14 (decide (((1099511627777 : Int) / b) < a))], []⟩ : St)) (by kernel_rfl) (tsI 2 ⟨o1, tsI 1 trivial⟩) ?_
  refine nn ?_
  refine aw_cond (b := (decide (((1099511627777 : Int) / b) < a))) (by kernel_rfl) (fun hb => ?_) (fun hb => ?_)
  ·have h := h.1 hb
   refine srn 1 ⟨18, [sI 4 (1099511627777 : Int)], []⟩ (by kernel_rfl) rfl ?_
   refine aw_ret ?_
   refine thenQ_r ?_
   exact retQ_r (ob := Ts 1 True) _ (by kernel_rfl) (tsI 1 trivial) h
  ·have h := h.2 hb
   refine aw_skip ?_
   refine thenQ_n ?_
   refine sr ?_
   obtain ⟨o1, h⟩ := h
   refine rq 4 (ob := (Ts 2 (InR (a * b) ∧ Ts 1 True))) (st' := (⟨18, [sI 4 (a * b)], []⟩ : St)) (by kernel_rfl) (tsI 2 ⟨o1, tsI 1 trivial⟩) ?_
   refine nn ?_
   refine aw_ret ?_
   exact retQ_r (ob := Ts 1 True) _ (by kernel_rfl) (tsI 1 trivial) h
end Dec
