/-
  Printed by dec2.py: of each function its plain demand, and that the demand gives the contract.
-/
import Derived.Test.YtfpchbpnoggogaaGenAa
set_option linter.unusedVariables false
set_option linter.unusedSimpArgs false
set_option maxRecDepth 100000
namespace Dec
open Go Go.RowKit Go.Proofs

abbrev e27_0 (c0 : Int) (c1 : Int) (c2 : Int) (c3 : (List (Int × LI))) (c4 : LI) : Nat × Path × Con := hB 40000 [.pI c0, .pI c1, .pI c2, .p (.sl (.pr (.int .i64) (.sl (.int .i64)))) c3, .pS c4, .own 40001]
abbrev e27_1 (c3 : (List (Int × LI))) (c : Int) (rule : Int) : Nat × Path × AV := sI 1 ((((c3.getD (c).toNat ((0 : Int), ([] : LI))).2).drop (rule).toNat).getD ((0 : Int)).toNat (0 : Int))
abbrev e27_2 (c3 : (List (Int × LI))) (c : Int) (rule : Int) (fromv : Int) (over : Int) : Nat × Path × Con := hB 7 [.pI (-1 : Int), .pI ((((c3.getD (c).toNat ((0 : Int), ([] : LI))).2).drop (rule).toNat).getD ((0 : Int)).toNat (0 : Int)), .pI fromv, .pI over]
abbrev e27_3 (c3 : (List (Int × LI))) (c : Int) (rule : Int) (fromv : Int) (endv : Int) : Nat × Path × Con := hB 7 [.pI (-1 : Int), .pI ((((c3.getD (c).toNat ((0 : Int), ([] : LI))).2).drop (rule).toNat).getD ((0 : Int)).toNat (0 : Int)), .pI fromv, .pI endv]
abbrev e27_4 (c3 : (List (Int × LI))) (c : Int) (rule : Int) : Nat × Path × AV := s1 96 (.pS (((c3.getD (c).toNat ((0 : Int), ([] : LI))).2).drop (rule).toNat))
abbrev e27_5 (c : Int) (rule : Int) (fromv : Int) (over : Int) : Nat × Path × Con := hB 30101 [.pI c, .pI rule, .pI fromv, .pI over]
abbrev e27_6 (c3 : (List (Int × LI))) (c : Int) (rule : Int) : Nat × Path × AV := s1 9 (.pS (((c3.getD (c).toNat ((0 : Int), ([] : LI))).2).drop (rule).toNat))
abbrev e27_7 (l40001 : (List ((Int × (Int × (Int × Int))) × Int))) : Nat × Path × Con := (40001, [], .dict (.pr (.int .i64) t3) (.int .i64) l40001)
abbrev e27_8 (c3 : (List (Int × LI))) : Nat × Path × AV := s1 56 (.p (.sl (.pr (.int .i64) (.sl (.int .i64)))) c3)
abbrev e27_9 (c5 : (List ((Int × (Int × (Int × Int))) × Int))) : Nat × Path × Con := (40001, [], .dict (.pr (.int .i64) t3) (.int .i64) c5)
abbrev e27_10 (fromv : Int) (over : Int) : Nat × Path × Con := hB 30100 [.pI fromv, .pI over]
abbrev e27_11 (l400012 : (List ((Int × (Int × (Int × Int))) × Int))) : Nat × Path × Con := (40001, [], .dict (.pr (.int .i64) t3) (.int .i64) l400012)
abbrev e27_12 : Nat × Path × AV := sp 0 40000
abbrev e27_13 : Nat × Path × AV := sp 186 40000
abbrev e27_14 (c3 : (List (Int × LI))) : Nat × Path × AV := sI 57 (c3.length : Int)
abbrev e27_15 (fromv : Int) (over : Int) : Nat × Path × Con := hB 5 [.pI fromv, .pI over]
abbrev e27_16 (fromv : Int) (endv : Int) : Nat × Path × Con := hB 5 [.pI fromv, .pI endv]
abbrev e27_17 (ret77v : Int × (List ((Int × (Int × (Int × Int))) × Int))) : Nat × Path × Con := (40001, [], .dict (.pr (.int .i64) t3) (.int .i64) ret77v.2)
abbrev e27_18 : Nat × Path × AV := sp 99 40000
abbrev e27_19 (c : Int) (rule : Int) (fromv : Int) (over : Int) : Nat × Path × Con := hB 10 [.pI c, .pI rule, .pI fromv, .pI over]
abbrev e27_20 (c3 : (List (Int × LI))) (v58 : Int) (c : Int) (rule : Int) (c0 : Int) : Nat × Path × AV := sB 72 (decide ((c3.getD (v58).toNat ((0 : Int), ([] : LI))).1 = (((((c3.getD (c).toNat ((0 : Int), ([] : LI))).2).drop (rule).toNat).getD ((0 : Int)).toNat (0 : Int)) - c0)))
abbrev e27_21 : Nat × Path × AV := sp 87 40000
abbrev e27_22 : Nat × Path × AV := sp 94 30100
abbrev e27_23 : Nat × Path × AV := sp 97 30101
abbrev e27_24 (c3 : (List (Int × LI))) (c : Int) (rule : Int) : Nat × Path × AV := sI 71 ((((c3.getD (c).toNat ((0 : Int), ([] : LI))).2).drop (rule).toNat).getD ((0 : Int)).toNat (0 : Int))
abbrev e27_25 (fromv : Int) (over : Int) : Nat × Path × Con := hB 7 [.pI fromv, .pI over]
abbrev e27_26 (ret89v : Int × (List ((Int × (Int × (Int × Int))) × Int))) : Nat × Path × Con := (40001, [], .dict (.pr (.int .i64) t3) (.int .i64) ret89v.2)
abbrev e27_27 (c3 : (List (Int × LI))) (v58 : Int) : Nat × Path × Con := hB 12 [.pI ((c3.getD (v58).toNat ((0 : Int), ([] : LI))).1), .pS ((c3.getD (v58).toNat ((0 : Int), ([] : LI))).2)]
abbrev e27_28 : Nat × Path × AV := sp 10 30101
abbrev e27_29 : Nat × Path × AV := sp 7 30100
-- (*coppicer/table.Counter).Row
def VCc100_k1 (K : Int × (List ((Int × (Int × (Int × Int))) × Int)) → Prop) (v6 : Int) (l40001 : (List ((Int × (Int × (Int × Int))) × Int))) : Prop :=
  K (v6, l40001)

def VCc100_k2 (c3 : (List (Int × LI))) (c : Int) (rule : Int) (fromv : Int) (over : Int) (K : Int × (List ((Int × (Int × (Int × Int))) × Int)) → Prop) (n : Int) (l40001 : (List ((Int × (Int × (Int × Int))) × Int))) : Prop :=
  VCc100_k1 K n (mset l40001 ((-1 : Int), (((((c3.getD (c).toNat ((0 : Int), ([] : LI))).2).drop (rule).toNat).getD ((0 : Int)).toNat (0 : Int)), (fromv, over))) n)

def VCc100_k3 (v58 : Int) (X1 : Int × Int × (List ((Int × (Int × (Int × Int))) × Int)) → Prop) (n2 : Int) (l400012 : (List ((Int × (Int × (Int × Int))) × Int))) : Prop :=
  (InR (v58 + (1 : Int)) ∧ X1 (n2, (v58 + (1 : Int)), l400012))

def VCc100_l1 (c0 : Int) (c3 : (List (Int × LI))) (R : Int → Int → Int → Int → (List ((Int × (Int × (Int × Int))) × Int)) → (Int × (List ((Int × (Int × (Int × Int))) × Int)) → Prop) → Prop) (c : Int) (rule : Int) (fromv : Int) (over : Int) (K : Int × (List ((Int × (Int × (Int × Int))) × Int)) → Prop) (n : Int) (v58 : Int) (l40001 : (List ((Int × (Int × (Int × Int))) × Int))) (X1 : Int × Int × (List ((Int × (Int × (Int × Int))) × Int)) → Prop) : Prop :=
  (((decide (v58 < (c3.length : Int))) = true → (inIdx v58 c3.length ∧ (InR (((((c3.getD (c).toNat ((0 : Int), ([] : LI))).2).drop (rule).toNat).getD ((0 : Int)).toNat (0 : Int)) - c0) ∧ (((decide ((c3.getD (v58).toNat ((0 : Int), ([] : LI))).1 = (((((c3.getD (c).toNat ((0 : Int), ([] : LI))).2).drop (rule).toNat).getD ((0 : Int)).toNat (0 : Int)) - c0))) = true → R v58 (0 : Int) fromv over l40001 (fun (ret77v : Int × (List ((Int × (Int × (Int × Int))) × Int))) => VC109 n ret77v.1 (fun (ret78v : Int) => VCc100_k3 v58 X1 ret78v ret77v.2))) ∧ ((decide ((c3.getD (v58).toNat ((0 : Int), ([] : LI))).1 = (((((c3.getD (c).toNat ((0 : Int), ([] : LI))).2).drop (rule).toNat).getD ((0 : Int)).toNat (0 : Int)) - c0))) = false → VCc100_k3 v58 X1 n l40001))))) ∧ ((decide (v58 < (c3.length : Int))) = false → VCc100_k2 c3 c rule fromv over K n l40001))

def VCc100_k4 (c : Int) (rule : Int) (fromv : Int) (over : Int) (K : Int × (List ((Int × (Int × (Int × Int))) × Int)) → Prop) (n : Int) (l40001 : (List ((Int × (Int × (Int × Int))) × Int))) : Prop :=
  K (n, (mset l40001 (c, (rule, (fromv, over))) n))

def VCc100_k6 (endv : Int) (X2 : Int × Int × (List ((Int × (Int × (Int × Int))) × Int)) → Prop) (n2 : Int) (l400013 : (List ((Int × (Int × (Int × Int))) × Int))) : Prop :=
  (InR (endv + (1 : Int)) ∧ X2 (n2, (endv + (1 : Int)), l400013))

def VCc100_k5 (R : Int → Int → Int → Int → (List ((Int × (Int × (Int × Int))) × Int)) → (Int × (List ((Int × (Int × (Int × Int))) × Int)) → Prop) → Prop) (c : Int) (rule : Int) (over : Int) (n : Int) (endv : Int) (X2 : Int × Int × (List ((Int × (Int × (Int × Int))) × Int)) → Prop) (v6 : Int) (l400012 : (List ((Int × (Int × (Int × Int))) × Int))) : Prop :=
  (((decide ((0 : Int) < v6)) = true → (InR (rule + (1 : Int)) ∧ R c (rule + (1 : Int)) endv over l400012 (fun (ret89v : Int × (List ((Int × (Int × (Int × Int))) × Int))) => VC124 v6 ret89v.1 (fun (ret90v : Int) => VC109 n ret90v (fun (ret91v : Int) => VCc100_k6 endv X2 ret91v ret89v.2))))) ∧ ((decide ((0 : Int) < v6)) = false → VCc100_k6 endv X2 n l400012))

def VCc100_k7 (c3 : (List (Int × LI))) (R : Int → Int → Int → Int → (List ((Int × (Int × (Int × Int))) × Int)) → (Int × (List ((Int × (Int × (Int × Int))) × Int)) → Prop) → Prop) (c : Int) (rule : Int) (fromv : Int) (over : Int) (n : Int) (endv : Int) (X2 : Int × Int × (List ((Int × (Int × (Int × Int))) × Int)) → Prop) (n2 : Int) (l400012 : (List ((Int × (Int × (Int × Int))) × Int))) : Prop :=
  VCc100_k5 R c rule over n endv X2 n2 (mset l400012 ((-1 : Int), (((((c3.getD (c).toNat ((0 : Int), ([] : LI))).2).drop (rule).toNat).getD ((0 : Int)).toNat (0 : Int)), (fromv, endv))) n2)

def VCc100_k8 (v58 : Int) (X3 : Int × Int × (List ((Int × (Int × (Int × Int))) × Int)) → Prop) (n3 : Int) (l400013 : (List ((Int × (Int × (Int × Int))) × Int))) : Prop :=
  (InR (v58 + (1 : Int)) ∧ X3 (n3, (v58 + (1 : Int)), l400013))

def VCc100_l3 (c0 : Int) (c3 : (List (Int × LI))) (R : Int → Int → Int → Int → (List ((Int × (Int × (Int × Int))) × Int)) → (Int × (List ((Int × (Int × (Int × Int))) × Int)) → Prop) → Prop) (c : Int) (rule : Int) (fromv : Int) (over : Int) (n : Int) (endv : Int) (X2 : Int × Int × (List ((Int × (Int × (Int × Int))) × Int)) → Prop) (n2 : Int) (v58 : Int) (l400012 : (List ((Int × (Int × (Int × Int))) × Int))) (X3 : Int × Int × (List ((Int × (Int × (Int × Int))) × Int)) → Prop) : Prop :=
  (((decide (v58 < (c3.length : Int))) = true → (inIdx v58 c3.length ∧ (InR (((((c3.getD (c).toNat ((0 : Int), ([] : LI))).2).drop (rule).toNat).getD ((0 : Int)).toNat (0 : Int)) - c0) ∧ (((decide ((c3.getD (v58).toNat ((0 : Int), ([] : LI))).1 = (((((c3.getD (c).toNat ((0 : Int), ([] : LI))).2).drop (rule).toNat).getD ((0 : Int)).toNat (0 : Int)) - c0))) = true → R v58 (0 : Int) fromv endv l400012 (fun (ret77v : Int × (List ((Int × (Int × (Int × Int))) × Int))) => VC109 n2 ret77v.1 (fun (ret78v : Int) => VCc100_k8 v58 X3 ret78v ret77v.2))) ∧ ((decide ((c3.getD (v58).toNat ((0 : Int), ([] : LI))).1 = (((((c3.getD (c).toNat ((0 : Int), ([] : LI))).2).drop (rule).toNat).getD ((0 : Int)).toNat (0 : Int)) - c0))) = false → VCc100_k8 v58 X3 n2 l400012))))) ∧ ((decide (v58 < (c3.length : Int))) = false → VCc100_k7 c3 R c rule fromv over n endv X2 n2 l400012))

def VCc100_l2 (c0 : Int) (c3 : (List (Int × LI))) (c4 : LI) (R : Int → Int → Int → Int → (List ((Int × (Int × (Int × Int))) × Int)) → (Int × (List ((Int × (Int × (Int × Int))) × Int)) → Prop) → Prop) (c : Int) (rule : Int) (fromv : Int) (over : Int) (K : Int × (List ((Int × (Int × (Int × Int))) × Int)) → Prop) (n : Int) (endv : Int) (l40001 : (List ((Int × (Int × (Int × Int))) × Int))) (X2 : Int × Int × (List ((Int × (Int × (Int × Int))) × Int)) → Prop) : Prop :=
  (((decide (endv < over)) = true → (inIdx (0 : Int) (((c3.getD (c).toNat ((0 : Int), ([] : LI))).2).drop (rule).toNat).length ∧ (((decide (((((c3.getD (c).toNat ((0 : Int), ([] : LI))).2).drop (rule).toNat).getD ((0 : Int)).toNat (0 : Int)) < c0)) = true → (InR (fromv + (1 : Int)) ∧ ((decide (endv = (fromv + (1 : Int)))) = true → inIdx fromv c4.length) ∧ ((((decide (endv = (fromv + (1 : Int)))) && (decide ((c4.getD (fromv).toNat (0 : Int)) = ((((c3.getD (c).toNat ((0 : Int), ([] : LI))).2).drop (rule).toNat).getD ((0 : Int)).toNat (0 : Int))))) = true → VCc100_k5 R c rule over n endv X2 (1 : Int) l40001) ∧ (((decide (endv = (fromv + (1 : Int)))) && (decide ((c4.getD (fromv).toNat (0 : Int)) = ((((c3.getD (c).toNat ((0 : Int), ([] : LI))).2).drop (rule).toNat).getD ((0 : Int)).toNat (0 : Int))))) = false → VCc100_k5 R c rule over n endv X2 (0 : Int) l40001)))) ∧ ((decide (((((c3.getD (c).toNat ((0 : Int), ([] : LI))).2).drop (rule).toNat).getD ((0 : Int)).toNat (0 : Int)) < c0)) = false → (((mget l40001 ((-1 : Int), (((((c3.getD (c).toNat ((0 : Int), ([] : LI))).2).drop (rule).toNat).getD ((0 : Int)).toNat (0 : Int)), (fromv, endv)))).isSome = true → VCc100_k5 R c rule over n endv X2 ((mget l40001 ((-1 : Int), (((((c3.getD (c).toNat ((0 : Int), ([] : LI))).2).drop (rule).toNat).getD ((0 : Int)).toNat (0 : Int)), (fromv, endv)))).getD (0 : Int)) l40001) ∧ ((mget l40001 ((-1 : Int), (((((c3.getD (c).toNat ((0 : Int), ([] : LI))).2).drop (rule).toNat).getD ((0 : Int)).toNat (0 : Int)), (fromv, endv)))).isSome = false → Loop (σ := Int × Int × (List ((Int × (Int × (Int × Int))) × Int))) (fun s X => VCc100_l3 c0 c3 R c rule fromv over n endv X2 s.1 s.2.1 s.2.2 X) ((0 : Int), (0 : Int), l40001))))))) ∧ ((decide (endv < over)) = false → VCc100_k4 c rule fromv over K n l40001))

def VCc100 (c0 : Int) (c1 : Int) (c2 : Int) (c3 : (List (Int × LI))) (c4 : LI) (R : Int → Int → Int → Int → (List ((Int × (Int × (Int × Int))) × Int)) → (Int × (List ((Int × (Int × (Int × Int))) × Int)) → Prop) → Prop) (c : Int) (rule : Int) (fromv : Int) (over : Int) (c5 : (List ((Int × (Int × (Int × Int))) × Int))) (K : Int × (List ((Int × (Int × (Int × Int))) × Int)) → Prop) : Prop :=
  (inIdx c c3.length ∧ (0 ≤ rule ∧ rule ≤ (((c3.getD (c).toNat ((0 : Int), ([] : LI))).2).length : Int)) ∧ (InR (over - fromv) ∧ (((decide ((over - fromv) < ((((c3.getD (c).toNat ((0 : Int), ([] : LI))).2).drop (rule).toNat).length : Int))) = true → K ((0 : Int), c5)) ∧ ((decide ((over - fromv) < ((((c3.getD (c).toNat ((0 : Int), ([] : LI))).2).drop (rule).toNat).length : Int))) = false → (((decide (((((c3.getD (c).toNat ((0 : Int), ([] : LI))).2).drop (rule).toNat).length : Int) = (1 : Int))) = true → (inIdx (0 : Int) (((c3.getD (c).toNat ((0 : Int), ([] : LI))).2).drop (rule).toNat).length ∧ (((decide (((((c3.getD (c).toNat ((0 : Int), ([] : LI))).2).drop (rule).toNat).getD ((0 : Int)).toNat (0 : Int)) < c0)) = true → (InR (fromv + (1 : Int)) ∧ ((decide (over = (fromv + (1 : Int)))) = true → inIdx fromv c4.length) ∧ ((((decide (over = (fromv + (1 : Int)))) && (decide ((c4.getD (fromv).toNat (0 : Int)) = ((((c3.getD (c).toNat ((0 : Int), ([] : LI))).2).drop (rule).toNat).getD ((0 : Int)).toNat (0 : Int))))) = true → VCc100_k1 K (1 : Int) c5) ∧ (((decide (over = (fromv + (1 : Int)))) && (decide ((c4.getD (fromv).toNat (0 : Int)) = ((((c3.getD (c).toNat ((0 : Int), ([] : LI))).2).drop (rule).toNat).getD ((0 : Int)).toNat (0 : Int))))) = false → VCc100_k1 K (0 : Int) c5)))) ∧ ((decide (((((c3.getD (c).toNat ((0 : Int), ([] : LI))).2).drop (rule).toNat).getD ((0 : Int)).toNat (0 : Int)) < c0)) = false → (((mget c5 ((-1 : Int), (((((c3.getD (c).toNat ((0 : Int), ([] : LI))).2).drop (rule).toNat).getD ((0 : Int)).toNat (0 : Int)), (fromv, over)))).isSome = true → VCc100_k1 K ((mget c5 ((-1 : Int), (((((c3.getD (c).toNat ((0 : Int), ([] : LI))).2).drop (rule).toNat).getD ((0 : Int)).toNat (0 : Int)), (fromv, over)))).getD (0 : Int)) c5) ∧ ((mget c5 ((-1 : Int), (((((c3.getD (c).toNat ((0 : Int), ([] : LI))).2).drop (rule).toNat).getD ((0 : Int)).toNat (0 : Int)), (fromv, over)))).isSome = false → Loop (σ := Int × Int × (List ((Int × (Int × (Int × Int))) × Int))) (fun s X => VCc100_l1 c0 c3 R c rule fromv over K s.1 s.2.1 s.2.2 X) ((0 : Int), (0 : Int), c5))))))) ∧ ((decide (((((c3.getD (c).toNat ((0 : Int), ([] : LI))).2).drop (rule).toNat).length : Int) = (1 : Int))) = false → (((mget c5 (c, (rule, (fromv, over)))).isSome = true → K (((mget c5 (c, (rule, (fromv, over)))).getD (0 : Int)), c5)) ∧ ((mget c5 (c, (rule, (fromv, over)))).isSome = false → (InR (fromv + (1 : Int)) ∧ Loop (σ := Int × Int × (List ((Int × (Int × (Int × Int))) × Int))) (fun s X => VCc100_l2 c0 c3 c4 R c rule fromv over K s.1 s.2.1 s.2.2 X) ((0 : Int), (fromv + (1 : Int)), c5))))))))))

set_option maxHeartbeats 4000000 in
theorem linkc100 (c0 : Int) (c1 : Int) (c2 : Int) (c3 : (List (Int × LI))) (c4 : LI) (R : Int → Int → Int → Int → (List ((Int × (Int × (Int × Int))) × Int)) → (Int × (List ((Int × (Int × (Int × Int))) × Int)) → Prop) → Prop) (hR : ∀ (c : Int) (rule : Int) (fromv : Int) (over : Int) (c5 : (List ((Int × (Int × (Int × Int))) × Int))) (K : Int × (List ((Int × (Int × (Int × Int))) × Int)) → Prop), R c rule fromv over c5 K → LCalls Try.prog 100 [40000, 40001] [40000] [hB 40000 [.pI c0, .pI c1, .pI c2, .p (.sl (.pr (.int .i64) (.sl (.int .i64)))) c3, .pS c4, .own 40001], (40001, [], .dict (.pr (.int .i64) t3) (.int .i64) c5)] [.c (.ptr 40000 0), .c (.pI c), .c (.pI rule), .agg [.pI fromv, .pI over]] (fun av hp' => ∃ y : Int × (List ((Int × (Int × (Int × Int))) × Int)), av = .v (.c (.pI y.1)) ∧ hp' = [hB 40000 [.pI c0, .pI c1, .pI c2, .p (.sl (.pr (.int .i64) (.sl (.int .i64)))) c3, .pS c4, .own 40001], (40001, [], .dict (.pr (.int .i64) t3) (.int .i64) y.2)] ∧ K y)) (c : Int) (rule : Int) (fromv : Int) (over : Int) (c5 : (List ((Int × (Int × (Int × Int))) × Int))) (K : Int × (List ((Int × (Int × (Int × Int))) × Int)) → Prop) (h : VCc100 c0 c1 c2 c3 c4 R c rule fromv over c5 K) : LCalls Try.prog 100 [40000, 40001] [40000] [hB 40000 [.pI c0, .pI c1, .pI c2, .p (.sl (.pr (.int .i64) (.sl (.int .i64)))) c3, .pS c4, .own 40001], (40001, [], .dict (.pr (.int .i64) t3) (.int .i64) c5)] [.c (.ptr 40000 0), .c (.pI c), .c (.pI rule), .agg [.pI fromv, .pI over]] (fun av hp' => ∃ y : Int × (List ((Int × (Int × (Int × Int))) × Int)), av = .v (.c (.pI y.1)) ∧ hp' = [hB 40000 [.pI c0, .pI c1, .pI c2, .p (.sl (.pr (.int .i64) (.sl (.int .i64)))) c3, .pS c4, .own 40001], (40001, [], .dict (.pr (.int .i64) t3) (.int .i64) y.2)] ∧ K y) := by
 refine lcalls_of_aw [40000, 40001] [40000] [.t 8] Try.func100 rfl rfl (by kernel_rfl) (by kernel_rfl) (by kernel_rfl) ?_
 refine aw_conv [] (st' := (⟨99, [e27_12, sI 1 c, sI 2 rule, sA 3 [.pI fromv, .pI over], e27_18], [e27_0 c0 c1 c2 c3 c4, e27_9 c5]⟩ : St)) (by kernel_rfl) ?_
 unfold VCc100 at h
 refine sr ?_
 refine rq 2 (ob := (Ts 2 True)) (st' := (⟨99, [e27_12, sI 1 c, sI 2 rule, sp 7 7, e27_18], [e27_25 fromv over, e27_0 c0 c1 c2 c3 c4, e27_9 c5]⟩ : St)) (by kernel_rfl) (tsI 2 trivial) ?_
 refine nsr ?_
 obtain ⟨o1, o2, h⟩ := h
 refine rq 12 (ob := (Ts 6 (inIdx c c3.length ∧ Ts 3 ((0 ≤ rule ∧ rule ≤ (((c3.getD (c).toNat ((0 : Int), ([] : LI))).2).length : Int)) ∧ Ts 1 True)))) (st' := (⟨99, [e27_12, sI 1 c, sI 2 rule, sp 7 7, e27_6 c3 c rule, e27_18], [e27_25 fromv over, e27_0 c0 c1 c2 c3 c4, e27_9 c5]⟩ : St)) (by kernel_rfl) (tsI 6 (⟨o1, tsI 3 ⟨o2, tsI 1 trivial⟩⟩)) ?_
 refine nn ?_
 refine aw_seq ?_
 refine sr ?_
 obtain ⟨o1, h⟩ := h
 refine rq 8 (ob := (Ts 4 (InR (over - fromv) ∧ Ts 3 True))) (st' := (⟨99, [e27_12, sI 1 c, sI 2 rule, sp 7 7, e27_6 c3 c rule, sB 34 (decide ((over - fromv) < ((((c3.getD (c).toNat ((0 : Int), ([] : LI))).2).drop (rule).toNat).length : Int))), e27_18], [e27_25 fromv over, e27_0 c0 c1 c2 c3 c4, e27_9 c5]⟩ : St)) (by kernel_rfl) (tsI 4 ⟨o1, tsI 3 trivial⟩) ?_
 refine nn ?_
 refine aw_cond (b := (decide ((over - fromv) < ((((c3.getD (c).toNat ((0 : Int), ([] : LI))).2).drop (rule).toNat).length : Int)))) (by kernel_rfl) (fun hb => ?_) (fun hb => ?_)
 ·have h := h.1 hb
  refine sr ?_
  refine rq 1 (ob := (Ts 1 True)) (st' := (⟨99, [sI 8 (0 : Int), e27_18], [e27_0 c0 c1 c2 c3 c4, e27_9 c5]⟩ : St)) (by kernel_rfl) (tsI 1 trivial) ?_
  refine nn ?_
  refine aw_ret ?_
  refine thenQ_r ?_
  exact lret_r (σ := Int × (List ((Int × (Int × (Int × Int))) × Int))) (A := fun y => .v (.c (.pI y.1))) (H := fun y => [hB 40000 [.pI c0, .pI c1, .pI c2, .p (.sl (.pr (.int .i64) (.sl (.int .i64)))) c3, .pS c4, .own 40001], (40001, [], .dict (.pr (.int .i64) t3) (.int .i64) y.2)]) (ob := True) ((0 : Int), c5) (by kernel_rfl) trivial rfl (by kernel_rfl) (by kernel_rfl) (by kernel_rfl) h
 ·have h := h.2 hb
  refine aw_skip ?_
  refine thenQ_n ?_
  refine aw_seq ?_
  refine sr ?_
  refine rq 3 (ob := (Ts 3 True)) (st' := (⟨99, [e27_12, sI 1 c, sI 2 rule, sp 7 7, e27_6 c3 c rule, sB 37 (decide (((((c3.getD (c).toNat ((0 : Int), ([] : LI))).2).drop (rule).toNat).length : Int) = (1 : Int))), e27_18], [e27_25 fromv over, e27_0 c0 c1 c2 c3 c4, e27_9 c5]⟩ : St)) (by kernel_rfl) (tsI 3 trivial) ?_
  refine nn ?_
  refine aw_cond (b := (decide (((((c3.getD (c).toNat ((0 : Int), ([] : LI))).2).drop (rule).toNat).length : Int) = (1 : Int)))) (by kernel_rfl) (fun hb => ?_) (fun hb => ?_)
  ·have h := h.1 hb
   refine aw_seq ?_
   refine aw_conv [.ren 7 30000] (st' := (⟨99, [e27_12, sI 1 c, sI 2 rule, sp 7 30000, e27_6 c3 c rule, sB 37 (decide (((((c3.getD (c).toNat ((0 : Int), ([] : LI))).2).drop (rule).toNat).length : Int) = (1 : Int))), e27_18], [hB 30000 [.pI fromv, .pI over], e27_0 c0 c1 c2 c3 c4, e27_9 c5]⟩ : St)) (by kernel_rfl) ?_
   refine awd_begin [40000, 40001] (by kernel_rfl) ?_
   obtain ⟨o1, h⟩ := h
   refine drq (by kernel_rfl) [0, 1, 2, 3, 4] (ob := (Ts 2 (inIdx (0 : Int) (((c3.getD (c).toNat ((0 : Int), ([] : LI))).2).drop (rule).toNat).length ∧ Ts 2 True))) (done' := [4, 3, 2, 1, 0]) (st' := (⟨99, [sp 38 40000, sI 41 ((((c3.getD (c).toNat ((0 : Int), ([] : LI))).2).drop (rule).toNat).getD ((0 : Int)).toNat (0 : Int)), sA 42 [.pI fromv, .pI over], e27_18], [e27_0 c0 c1 c2 c3 c4, e27_9 c5]⟩ : St)) (by kernel_rfl) (tsI 2 ⟨o1, tsI 2 trivial⟩) ?_
   refine awd_one (i := 5) (by kernel_rfl) ?_
   refine adop_inlr [.t 6] [.c (.ptr 40000 0), .c (.pI ((((c3.getD (c).toNat ((0 : Int), ([] : LI))).2).drop (rule).toNat).getD ((0 : Int)).toNat (0 : Int))), .agg [.pI fromv, .pI over]] [] rfl rfl rfl (by kernel_rfl) rfl (by kernel_rfl) Try.call86 (by kernel_rfl) (by kernel_rfl) Try.func86 rfl rfl (by kernel_rfl) ?_
   refine aw_conv [] (st' := (⟨87, [e27_12, e27_1 c3 c rule, sA 2 [.pI fromv, .pI over], sp 125 40000, sI 128 ((((c3.getD (c).toNat ((0 : Int), ([] : LI))).2).drop (rule).toNat).getD ((0 : Int)).toNat (0 : Int)), sA 129 [.pI fromv, .pI over], e27_13], [e27_0 c0 c1 c2 c3 c4, e27_9 c5]⟩ : St)) (by kernel_rfl) ?_
   refine withJoinR (σ := Int × (List ((Int × (Int × (Int × Int))) × Int))) (fun s => (⟨87, [sI 6 s.1, e27_13], [e27_0 c0 c1 c2 c3 c4, (40001, [], .dict (.pr (.int .i64) t3) (.int .i64) s.2)]⟩ : St)) (fun s => VCc100_k1 K s.1 s.2) (fun s h => ?_) (fun rest1 => ?_)
   ·obtain ⟨v6, l40001⟩ := s
    have h : VCc100_k1 K v6 l40001 := h
    unfold VCc100_k1 at h
    refine inlR_n (ob := True) (.v (.c (.pI v6))) (by kernel_rfl) trivial rfl ?_
    refine dpr (st' := (⟨99, [sI 43 v6, e27_18], [e27_0 c0 c1 c2 c3 c4, e27_7 l40001]⟩ : St)) (by kernel_rfl) ?_
    refine drq (by kernel_rfl) [6] (ob := (Ts 1 True)) (done' := [6, 5, 4, 3, 2, 1, 0]) (st' := (⟨99, [sI 8 v6, e27_18], [e27_0 c0 c1 c2 c3 c4, e27_7 l40001]⟩ : St)) (by kernel_rfl) (tsI 1 trivial) ?_
    refine awd_done (by kernel_rfl) ?_
    refine thenQ_n ?_
    refine aw_ret ?_
    refine thenQ_r ?_
    exact lret_r (σ := Int × (List ((Int × (Int × (Int × Int))) × Int))) (A := fun y => .v (.c (.pI y.1))) (H := fun y => [hB 40000 [.pI c0, .pI c1, .pI c2, .p (.sl (.pr (.int .i64) (.sl (.int .i64)))) c3, .pS c4, .own 40001], (40001, [], .dict (.pr (.int .i64) t3) (.int .i64) y.2)]) (ob := True) (v6, l40001) (by kernel_rfl) trivial rfl (by kernel_rfl) (by kernel_rfl) (by kernel_rfl) h
   ·refine sr ?_
    refine rq 2 (ob := (Ts 2 True)) (st' := (⟨87, [e27_12, e27_1 c3 c rule, sp 5 5, e27_13], [e27_15 fromv over, e27_0 c0 c1 c2 c3 c4, e27_9 c5]⟩ : St)) (by kernel_rfl) (tsI 2 trivial) ?_
    refine nn ?_
    refine aw_seq ?_
    refine sr ?_
    refine rq 7 (ob := (Ts 7 True)) (st' := (⟨87, [e27_12, e27_1 c3 c rule, sp 5 5, sB 19 (decide (((((c3.getD (c).toNat ((0 : Int), ([] : LI))).2).drop (rule).toNat).getD ((0 : Int)).toNat (0 : Int)) < c0)), e27_13], [e27_15 fromv over, e27_0 c0 c1 c2 c3 c4, e27_9 c5]⟩ : St)) (by kernel_rfl) (tsI 7 trivial) ?_
    refine nn ?_
    refine aw_cond (b := (decide (((((c3.getD (c).toNat ((0 : Int), ([] : LI))).2).drop (rule).toNat).getD ((0 : Int)).toNat (0 : Int)) < c0))) (by kernel_rfl) (fun hb => ?_) (fun hb => ?_)
    ·have h := h.1 hb
     refine aw_seq ?_
     refine aw_seq ?_
     refine awd_begin [] (by kernel_rfl) ?_
     obtain ⟨o1, o2, h⟩ := h
     refine drq (by kernel_rfl) [0, 1, 2, 3, 4, 5, 6, 7, 8, 9, 10, 11, 12, 13, 14, 15, 16, 17] (ob := (Ts 4 (InR (fromv + (1 : Int)) ∧ Ts 2 (Ti 6 ((decide (over = (fromv + (1 : Int)))) = true → True) (((decide (over = (fromv + (1 : Int)))) = true → inIdx fromv c4.length) ∧ Ti 3 ((decide (over = (fromv + (1 : Int)))) = true → True) (Ts 1 True)))))) (done' := [17, 16, 15, 14, 13, 12, 11, 10, 9, 8, 7, 6, 5, 4, 3, 2, 1, 0]) (st' := (⟨87, [sB 37 ((decide (over = (fromv + (1 : Int)))) && (decide ((c4.getD (fromv).toNat (0 : Int)) = ((((c3.getD (c).toNat ((0 : Int), ([] : LI))).2).drop (rule).toNat).getD ((0 : Int)).toNat (0 : Int))))), e27_13], [e27_0 c0 c1 c2 c3 c4, e27_9 c5]⟩ : St)) (by kernel_rfl) (tsI 4 (⟨o1, tsI 2 (tiI 6 (fun _ => trivial) ⟨o2, tiI 3 (fun _ => trivial) (tsI 1 trivial)⟩)⟩)) ?_
     refine awd_done (by kernel_rfl) ?_
     refine thenQ_n ?_
     refine aw_cond (b := ((decide (over = (fromv + (1 : Int)))) && (decide ((c4.getD (fromv).toNat (0 : Int)) = ((((c3.getD (c).toNat ((0 : Int), ([] : LI))).2).drop (rule).toNat).getD ((0 : Int)).toNat (0 : Int)))))) (by kernel_rfl) (fun hb => ?_) (fun hb => ?_)
     ·have h := h.1 hb
      refine sr ?_
      refine rq 1 (ob := (Ts 1 True)) (st' := (⟨87, [sI 6 (1 : Int), e27_13], [e27_0 c0 c1 c2 c3 c4, e27_9 c5]⟩ : St)) (by kernel_rfl) (tsI 1 trivial) ?_
      refine nn ?_
      refine aw_ret ?_
      refine thenQ_r ?_
      refine thenQ_r ?_
      exact rest1 ((1 : Int), c5) h
     ·have h := h.2 hb
      refine aw_skip ?_
      refine thenQ_n ?_
      refine sr ?_
      refine rq 1 (ob := (Ts 1 True)) (st' := (⟨87, [sI 6 (0 : Int), e27_13], [e27_0 c0 c1 c2 c3 c4, e27_9 c5]⟩ : St)) (by kernel_rfl) (tsI 1 trivial) ?_
      refine nn ?_
      refine aw_ret ?_
      refine thenQ_r ?_
      exact rest1 ((0 : Int), c5) h
    ·have h := h.2 hb
     refine aw_skip ?_
     refine thenQ_n ?_
     refine sr ?_
     refine rq 5 (ob := (Ts 5 True)) (st' := (⟨87, [e27_12, e27_1 c3 c rule, sp 5 5, sp 7 7, e27_13], [e27_15 fromv over, e27_2 c3 c rule fromv over, e27_0 c0 c1 c2 c3 c4, e27_9 c5]⟩ : St)) (by kernel_rfl) (tsI 5 trivial) ?_
     refine nn ?_
     refine aw_seq ?_
     refine aw_seq ?_
     refine awd_begin [] (by kernel_rfl) ?_
     refine drq (by kernel_rfl) [0, 1, 2, 3, 4, 5, 6, 7, 8, 9, 10] (ob := (Ts 11 True)) (done' := [10, 9, 8, 7, 6, 5, 4, 3, 2, 1, 0]) (st' := (⟨87, [e27_12, e27_1 c3 c rule, sp 5 5, sp 7 7, sI 8 ((mget c5 ((-1 : Int), (((((c3.getD (c).toNat ((0 : Int), ([] : LI))).2).drop (rule).toNat).getD ((0 : Int)).toNat (0 : Int)), (fromv, over)))).getD (0 : Int)), sB 9 ((mget c5 ((-1 : Int), (((((c3.getD (c).toNat ((0 : Int), ([] : LI))).2).drop (rule).toNat).getD ((0 : Int)).toNat (0 : Int)), (fromv, over)))).isSome), e27_13], [e27_15 fromv over, e27_2 c3 c rule fromv over, e27_0 c0 c1 c2 c3 c4, e27_9 c5]⟩ : St)) (by kernel_rfl) (tsI 11 trivial) ?_
     refine awd_done (by kernel_rfl) ?_
     refine thenQ_n ?_
     refine sr ?_
     refine rq 1 (ob := (Ts 1 True)) (st' := (⟨87, [e27_12, e27_1 c3 c rule, sp 5 5, sp 7 7, sI 8 ((mget c5 ((-1 : Int), (((((c3.getD (c).toNat ((0 : Int), ([] : LI))).2).drop (rule).toNat).getD ((0 : Int)).toNat (0 : Int)), (fromv, over)))).getD (0 : Int)), sB 50 ((mget c5 ((-1 : Int), (((((c3.getD (c).toNat ((0 : Int), ([] : LI))).2).drop (rule).toNat).getD ((0 : Int)).toNat (0 : Int)), (fromv, over)))).isSome), e27_13], [e27_15 fromv over, e27_2 c3 c rule fromv over, e27_0 c0 c1 c2 c3 c4, e27_9 c5]⟩ : St)) (by kernel_rfl) (tsI 1 trivial) ?_
     refine nn ?_
     refine aw_cond (b := (mget c5 ((-1 : Int), (((((c3.getD (c).toNat ((0 : Int), ([] : LI))).2).drop (rule).toNat).getD ((0 : Int)).toNat (0 : Int)), (fromv, over)))).isSome) (by kernel_rfl) (fun hb => ?_) (fun hb => ?_)
     ·have h := h.1 hb
      refine sr ?_
      refine rq 2 (ob := (Ts 2 True)) (st' := (⟨87, [sI 6 ((mget c5 ((-1 : Int), (((((c3.getD (c).toNat ((0 : Int), ([] : LI))).2).drop (rule).toNat).getD ((0 : Int)).toNat (0 : Int)), (fromv, over)))).getD (0 : Int)), e27_13], [e27_0 c0 c1 c2 c3 c4, e27_9 c5]⟩ : St)) (by kernel_rfl) (tsI 2 trivial) ?_
      refine nn ?_
      refine aw_ret ?_
      refine thenQ_r ?_
      exact rest1 (((mget c5 ((-1 : Int), (((((c3.getD (c).toNat ((0 : Int), ([] : LI))).2).drop (rule).toNat).getD ((0 : Int)).toNat (0 : Int)), (fromv, over)))).getD (0 : Int)), c5) h
     ·have h := h.2 hb
      refine aw_skip ?_
      refine thenQ_n ?_
      refine sr ?_
      refine rq 1 (ob := (Ts 1 True)) (st' := (⟨87, [e27_12, e27_1 c3 c rule, sp 5 5, sp 7 7, sI 10 (0 : Int), e27_13], [e27_15 fromv over, e27_2 c3 c rule fromv over, e27_0 c0 c1 c2 c3 c4, e27_9 c5]⟩ : St)) (by kernel_rfl) (tsI 1 trivial) ?_
      refine nn ?_
      refine aw_seq ?_
      refine sr ?_
      refine rq 7 (ob := (Ts 7 True)) (st' := (⟨87, [e27_12, e27_1 c3 c rule, sp 5 5, sp 7 7, sI 10 (0 : Int), e27_8 c3, e27_14 c3, sI 58 (0 : Int), e27_13], [e27_15 fromv over, e27_2 c3 c rule fromv over, e27_0 c0 c1 c2 c3 c4, e27_9 c5]⟩ : St)) (by kernel_rfl) (tsI 7 trivial) ?_
      refine nn ?_
      refine withJoin (σ := Int × (List ((Int × (Int × (Int × Int))) × Int))) (fun s => (⟨87, [e27_12, sp 7 7, sI 10 s.1, e27_13], [e27_2 c3 c rule fromv over, e27_0 c0 c1 c2 c3 c4, (40001, [], .dict (.pr (.int .i64) t3) (.int .i64) s.2)]⟩ : St)) (fun s => VCc100_k2 c3 c rule fromv over K s.1 s.2) (fun s h => ?_) (fun rest2 => ?_)
      ·obtain ⟨n, l40001⟩ := s
       have h : VCc100_k2 c3 c rule fromv over K n l40001 := h
       unfold VCc100_k2 at h
       refine thenQ_n ?_
       refine aw_seq ?_
       refine awd_begin [40001] (by kernel_rfl) ?_
       refine drq (by kernel_rfl) [0, 1, 2, 3, 4, 5] (ob := (Ts 6 True)) (done' := [5, 4, 3, 2, 1, 0]) (st' := (⟨87, [sI 10 n, s1 83 (.own 40001), sA 84 [.pI (-1 : Int), .pI ((((c3.getD (c).toNat ((0 : Int), ([] : LI))).2).drop (rule).toNat).getD ((0 : Int)).toNat (0 : Int)), .pI fromv, .pI over], sI 85 n, e27_13], [e27_0 c0 c1 c2 c3 c4, e27_7 l40001]⟩ : St)) (by kernel_rfl) (tsI 6 trivial) ?_
       refine awd_one (i := 6) (by kernel_rfl) ?_
       refine dsq (ob := True) (st' := (⟨87, [sI 10 n, e27_13], [e27_0 c0 c1 c2 c3 c4, (40001, [], .dict (.pr (.int .i64) t3) (.int .i64) (mset l40001 ((-1 : Int), (((((c3.getD (c).toNat ((0 : Int), ([] : LI))).2).drop (rule).toNat).getD ((0 : Int)).toNat (0 : Int)), (fromv, over))) n))]⟩ : St)) rfl (by kernel_rfl) trivial ?_
       refine awd_done (by kernel_rfl) ?_
       refine thenQ_n ?_
       refine sr ?_
       refine rq 2 (ob := (Ts 2 True)) (st' := (⟨87, [sI 6 n, e27_13], [e27_0 c0 c1 c2 c3 c4, (40001, [], .dict (.pr (.int .i64) t3) (.int .i64) (mset l40001 ((-1 : Int), (((((c3.getD (c).toNat ((0 : Int), ([] : LI))).2).drop (rule).toNat).getD ((0 : Int)).toNat (0 : Int)), (fromv, over))) n))]⟩ : St)) (by kernel_rfl) (tsI 2 trivial) ?_
       refine nn ?_
       refine aw_ret ?_
       exact rest1 (n, (mset l40001 ((-1 : Int), (((((c3.getD (c).toNat ((0 : Int), ([] : LI))).2).drop (rule).toNat).getD ((0 : Int)).toNat (0 : Int)), (fromv, over))) n)) h
      ·refine aw_block ?_
       refine aw_loop (σ := Int × Int × (List ((Int × (Int × (Int × Int))) × Int))) (fun s => (⟨87, [e27_12, e27_1 c3 c rule, sp 5 5, sp 7 7, sI 10 s.1, e27_8 c3, e27_14 c3, sI 58 s.2.1, e27_13], [e27_15 fromv over, e27_2 c3 c rule fromv over, e27_0 c0 c1 c2 c3 c4, (40001, [], .dict (.pr (.int .i64) t3) (.int .i64) s.2.2)]⟩ : St)) (fun s X => VCc100_l1 c0 c3 R c rule fromv over K s.1 s.2.1 s.2.2 X) (s0 := ((0 : Int), (0 : Int), c5)) (fun s X1 h => ?_) h
       obtain ⟨n, v58, l40001⟩ := s
       have h : VCc100_l1 c0 c3 R c rule fromv over K n v58 l40001 X1 := h
       unfold VCc100_l1 at h
       refine sr ?_
       refine rq 1 (ob := (Ts 1 True)) (st' := (⟨87, [e27_12, e27_1 c3 c rule, sp 5 5, sp 7 7, sI 10 n, e27_8 c3, e27_14 c3, sI 58 v58, sB 59 (decide (v58 < (c3.length : Int))), e27_13], [e27_15 fromv over, e27_2 c3 c rule fromv over, e27_0 c0 c1 c2 c3 c4, e27_7 l40001]⟩ : St)) (by kernel_rfl) (tsI 1 trivial) ?_
       refine nn ?_
       refine aw_seq ?_
       refine aw_cond (b := (decide (v58 < (c3.length : Int)))) (by kernel_rfl) (fun hb => ?_) (fun hb => ?_)
       ·have h := h.1 hb
        refine aw_skip ?_
        refine thenQ_n ?_
        refine aw_seq ?_
        refine aw_block ?_
        refine sr ?_
        obtain ⟨o1, h⟩ := h
        refine rq 6 (ob := (Ts 1 (inIdx v58 c3.length ∧ Ts 4 True))) (st' := (⟨87, [e27_12, e27_1 c3 c rule, sp 5 5, sp 7 7, sI 10 n, sI 11 v58, sp 12 12, e27_8 c3, e27_14 c3, sI 58 v58, e27_13], [e27_15 fromv over, e27_2 c3 c rule fromv over, e27_27 c3 v58, e27_0 c0 c1 c2 c3 c4, e27_7 l40001]⟩ : St)) (by kernel_rfl) (tsI 1 ⟨o1, tsI 4 trivial⟩) ?_
        refine nn ?_
        refine aw_seq ?_
        refine awd_begin [] (by kernel_rfl) ?_
        obtain ⟨o1, h⟩ := h
        refine drq (by kernel_rfl) [0, 1, 2, 3, 4, 5, 6, 7, 8, 9] (ob := (Ts 8 (InR (((((c3.getD (c).toNat ((0 : Int), ([] : LI))).2).drop (rule).toNat).getD ((0 : Int)).toNat (0 : Int)) - c0) ∧ Ts 1 True))) (done' := [9, 8, 7, 6, 5, 4, 3, 2, 1, 0]) (st' := (⟨87, [e27_12, e27_1 c3 c rule, sp 5 5, sp 7 7, sI 10 n, sI 11 v58, e27_8 c3, e27_14 c3, sI 58 v58, e27_20 c3 v58 c rule c0, e27_13], [e27_15 fromv over, e27_2 c3 c rule fromv over, e27_0 c0 c1 c2 c3 c4, e27_7 l40001]⟩ : St)) (by kernel_rfl) (tsI 8 ⟨o1, tsI 1 trivial⟩) ?_
        refine awd_done (by kernel_rfl) ?_
        refine thenQ_n ?_
        refine withJoin (σ := Int × (List ((Int × (Int × (Int × Int))) × Int))) (fun s => (⟨87, [e27_12, e27_1 c3 c rule, sp 5 5, sp 7 7, sI 10 s.1, e27_8 c3, e27_14 c3, sI 58 v58, e27_13], [e27_15 fromv over, e27_2 c3 c rule fromv over, e27_0 c0 c1 c2 c3 c4, (40001, [], .dict (.pr (.int .i64) t3) (.int .i64) s.2)]⟩ : St)) (fun s => VCc100_k3 v58 X1 s.1 s.2) (fun s h => ?_) (fun rest3 => ?_)
        ·obtain ⟨n2, l400012⟩ := s
         have h : VCc100_k3 v58 X1 n2 l400012 := h
         unfold VCc100_k3 at h
         refine blockQ_n ?_
         refine thenQ_n ?_
         refine aw_region ?_
         obtain ⟨o1, h⟩ := h
         refine rq 2 (ob := (InR (v58 + (1 : Int)) ∧ Ts 1 True)) (st' := (⟨87, [e27_12, e27_1 c3 c rule, sp 5 5, sp 7 7, sI 10 n2, e27_8 c3, e27_14 c3, sI 58 (v58 + (1 : Int)), e27_13], [e27_15 fromv over, e27_2 c3 c rule fromv over, e27_0 c0 c1 c2 c3 c4, e27_11 l400012]⟩ : St)) (by kernel_rfl) (⟨o1, tsI 1 trivial⟩) ?_
         refine awl_nil ?_
         exact thenQ_n ⟨(n2, (v58 + (1 : Int)), l400012), rfl, h⟩
        ·refine aw_cond (b := (decide ((c3.getD (v58).toNat ((0 : Int), ([] : LI))).1 = (((((c3.getD (c).toNat ((0 : Int), ([] : LI))).2).drop (rule).toNat).getD ((0 : Int)).toNat (0 : Int)) - c0)))) (by kernel_rfl) (fun hb => ?_) (fun hb => ?_)
         ·have h := h.1 hb
          refine aw_region ?_
          refine rq 4 (ob := (Ts 4 True)) (st' := (⟨87, [e27_12, e27_1 c3 c rule, sp 5 5, sp 7 7, e27_8 c3, e27_14 c3, sI 58 v58, sI 73 n, sp 74 40000, sI 75 v58, sA 76 [.pI fromv, .pI over], e27_13], [e27_15 fromv over, e27_2 c3 c rule fromv over, e27_0 c0 c1 c2 c3 c4, e27_7 l40001]⟩ : St)) (by kernel_rfl) (tsI 4 trivial) ?_
          refine awl_lcall (σ := Int × (List ((Int × (Int × (Int × Int))) × Int))) [40000, 40001] [40000] [.c (.ptr 40000 0), .c (.pI v58), .c (.pI (0 : Int)), .agg [.pI fromv, .pI over]] [] (fun ret77v => .v (.c (.pI ret77v.1))) (fun ret77v => [hB 40000 [.pI c0, .pI c1, .pI c2, .p (.sl (.pr (.int .i64) (.sl (.int .i64)))) c3, .pS c4, .own 40001], (40001, [], .dict (.pr (.int .i64) t3) (.int .i64) ret77v.2)]) (fun (ret77v : Int × (List ((Int × (Int × (Int × Int))) × Int))) => VC109 n ret77v.1 (fun (ret78v : Int) => VCc100_k3 v58 X1 ret78v ret77v.2)) [hB 40000 [.pI c0, .pI c1, .pI c2, .p (.sl (.pr (.int .i64) (.sl (.int .i64)))) c3, .pS c4, .own 40001], (40001, [], .dict (.pr (.int .i64) t3) (.int .i64) l40001)] (fun ret77v => (⟨87, [sI 77 ret77v.1, e27_12, e27_1 c3 c rule, sp 5 5, sp 7 7, e27_8 c3, e27_14 c3, sI 58 v58, sI 73 n, sp 74 40000, sI 75 v58, sA 76 [.pI fromv, .pI over], e27_13], [e27_0 c0 c1 c2 c3 c4, e27_17 ret77v, e27_15 fromv over, e27_2 c3 c rule fromv over]⟩ : St)) rfl rfl (by kernel_rfl) rfl (by kernel_rfl) Try.call100 (by kernel_rfl) (by kernel_rfl) (by kernel_rfl) (fun _ _ => rfl) (fun _ => by kernel_rfl) (hR v58 (0 : Int) fromv over l40001 _ h) (fun ret77v h => ?_)
          refine lpr (st' := (⟨87, [e27_12, e27_1 c3 c rule, sp 5 5, sp 7 7, e27_8 c3, e27_14 c3, sI 58 v58, sI 73 n, sI 77 ret77v.1, e27_13], [e27_15 fromv over, e27_2 c3 c rule fromv over, e27_0 c0 c1 c2 c3 c4, e27_17 ret77v]⟩ : St)) (by kernel_rfl) ?_
          refine lcq (d := 78) [.d (.int .i64), .d (.int .i64)] (fun ret78v => (⟨87, [e27_12, e27_1 c3 c rule, sp 5 5, sp 7 7, e27_8 c3, e27_14 c3, sI 58 v58, sI 78 ret78v, e27_13], [e27_15 fromv over, e27_2 c3 c rule fromv over, e27_0 c0 c1 c2 c3 c4, e27_17 ret77v]⟩ : St)) (by kernel_rfl) Try.call109 (fun _ => by kernel_rfl) (link109 n ret77v.1 _ h) (fun ret78v h => ?_)
          refine rq 1 (ob := (Ts 1 True)) (st' := (⟨87, [e27_12, e27_1 c3 c rule, sp 5 5, sp 7 7, sI 10 ret78v, e27_8 c3, e27_14 c3, sI 58 v58, e27_13], [e27_15 fromv over, e27_2 c3 c rule fromv over, e27_0 c0 c1 c2 c3 c4, e27_17 ret77v]⟩ : St)) (by kernel_rfl) (tsI 1 trivial) ?_
          refine awl_nil ?_
          exact rest3 (ret78v, ret77v.2) h
         ·have h := h.2 hb
          refine cpr (st' := (⟨87, [e27_12, e27_1 c3 c rule, sp 5 5, sp 7 7, sI 10 n, e27_8 c3, e27_14 c3, sI 58 v58, e27_13], [e27_15 fromv over, e27_2 c3 c rule fromv over, e27_0 c0 c1 c2 c3 c4, e27_7 l40001]⟩ : St)) (by kernel_rfl) ?_
          refine aw_skip ?_
          exact rest3 (n, l40001) h
       ·have h := h.2 hb
        refine cpr (st' := (⟨87, [e27_12, sp 7 7, sI 10 n, e27_13], [e27_2 c3 c rule fromv over, e27_0 c0 c1 c2 c3 c4, e27_7 l40001]⟩ : St)) (by kernel_rfl) ?_
        refine aw_exit ?_
        refine thenQ_x ?_
        refine thenQ_x ?_
        refine blockQ_hit ?_
        exact rest2 (n, l40001) h
  ·have h := h.2 hb
   refine aw_skip ?_
   refine thenQ_n ?_
   refine sr ?_
   refine rq 6 (ob := (Ts 6 True)) (st' := (⟨99, [e27_12, sI 1 c, sI 2 rule, sp 7 7, e27_6 c3 c rule, sp 10 10, e27_18], [e27_25 fromv over, e27_19 c rule fromv over, e27_0 c0 c1 c2 c3 c4, e27_9 c5]⟩ : St)) (by kernel_rfl) (tsI 6 trivial) ?_
   refine nn ?_
   refine aw_seq ?_
   refine aw_seq ?_
   refine awd_begin [] (by kernel_rfl) ?_
   refine drq (by kernel_rfl) [0, 1, 2, 3, 4, 5, 6, 7, 8, 9, 10] (ob := (Ts 11 True)) (done' := [10, 9, 8, 7, 6, 5, 4, 3, 2, 1, 0]) (st' := (⟨99, [e27_12, sI 1 c, sI 2 rule, sp 7 7, e27_6 c3 c rule, sp 10 10, sI 11 ((mget c5 (c, (rule, (fromv, over)))).getD (0 : Int)), sB 12 ((mget c5 (c, (rule, (fromv, over)))).isSome), e27_18], [e27_25 fromv over, e27_19 c rule fromv over, e27_0 c0 c1 c2 c3 c4, e27_9 c5]⟩ : St)) (by kernel_rfl) (tsI 11 trivial) ?_
   refine awd_done (by kernel_rfl) ?_
   refine thenQ_n ?_
   refine sr ?_
   refine rq 1 (ob := (Ts 1 True)) (st' := (⟨99, [e27_12, sI 1 c, sI 2 rule, sp 7 7, e27_6 c3 c rule, sp 10 10, sI 11 ((mget c5 (c, (rule, (fromv, over)))).getD (0 : Int)), sB 57 ((mget c5 (c, (rule, (fromv, over)))).isSome), e27_18], [e27_25 fromv over, e27_19 c rule fromv over, e27_0 c0 c1 c2 c3 c4, e27_9 c5]⟩ : St)) (by kernel_rfl) (tsI 1 trivial) ?_
   refine nn ?_
   refine aw_cond (b := (mget c5 (c, (rule, (fromv, over)))).isSome) (by kernel_rfl) (fun hb => ?_) (fun hb => ?_)
   ·have h := h.1 hb
    refine sr ?_
    refine rq 2 (ob := (Ts 2 True)) (st' := (⟨99, [sI 8 ((mget c5 (c, (rule, (fromv, over)))).getD (0 : Int)), e27_18], [e27_0 c0 c1 c2 c3 c4, e27_9 c5]⟩ : St)) (by kernel_rfl) (tsI 2 trivial) ?_
    refine nn ?_
    refine aw_ret ?_
    refine thenQ_r ?_
    exact lret_r (σ := Int × (List ((Int × (Int × (Int × Int))) × Int))) (A := fun y => .v (.c (.pI y.1))) (H := fun y => [hB 40000 [.pI c0, .pI c1, .pI c2, .p (.sl (.pr (.int .i64) (.sl (.int .i64)))) c3, .pS c4, .own 40001], (40001, [], .dict (.pr (.int .i64) t3) (.int .i64) y.2)]) (ob := True) (((mget c5 (c, (rule, (fromv, over)))).getD (0 : Int)), c5) (by kernel_rfl) trivial rfl (by kernel_rfl) (by kernel_rfl) (by kernel_rfl) h
   ·have h := h.2 hb
    refine aw_skip ?_
    refine thenQ_n ?_
    refine sr ?_
    refine rq 1 (ob := (Ts 1 True)) (st' := (⟨99, [e27_12, sI 1 c, sI 2 rule, sp 7 7, e27_6 c3 c rule, sp 10 10, sI 13 (0 : Int), e27_18], [e27_25 fromv over, e27_19 c rule fromv over, e27_0 c0 c1 c2 c3 c4, e27_9 c5]⟩ : St)) (by kernel_rfl) (tsI 1 trivial) ?_
    refine nn ?_
    refine aw_seq ?_
    refine sr ?_
    obtain ⟨o1, h⟩ := h
    refine rq 4 (ob := (Ts 2 (InR (fromv + (1 : Int)) ∧ Ts 1 True))) (st' := (⟨99, [e27_12, sI 1 c, sI 2 rule, sp 7 7, e27_6 c3 c rule, sp 10 10, sI 13 (0 : Int), sI 14 (fromv + (1 : Int)), e27_18], [e27_25 fromv over, e27_19 c rule fromv over, e27_0 c0 c1 c2 c3 c4, e27_9 c5]⟩ : St)) (by kernel_rfl) (tsI 2 ⟨o1, tsI 1 trivial⟩) ?_
    refine nn ?_
    refine withJoin (σ := Int × (List ((Int × (Int × (Int × Int))) × Int))) (fun s => (⟨99, [e27_12, sp 10 10, sI 13 s.1, e27_18], [e27_19 c rule fromv over, e27_0 c0 c1 c2 c3 c4, (40001, [], .dict (.pr (.int .i64) t3) (.int .i64) s.2)]⟩ : St)) (fun s => VCc100_k4 c rule fromv over K s.1 s.2) (fun s h => ?_) (fun rest4 => ?_)
    ·obtain ⟨n, l40001⟩ := s
     have h : VCc100_k4 c rule fromv over K n l40001 := h
     unfold VCc100_k4 at h
     refine thenQ_n ?_
     refine aw_seq ?_
     refine awd_begin [40001] (by kernel_rfl) ?_
     refine drq (by kernel_rfl) [0, 1, 2, 3, 4, 5] (ob := (Ts 6 True)) (done' := [5, 4, 3, 2, 1, 0]) (st' := (⟨99, [sI 13 n, s1 95 (.own 40001), sA 96 [.pI c, .pI rule, .pI fromv, .pI over], sI 97 n, e27_18], [e27_0 c0 c1 c2 c3 c4, e27_7 l40001]⟩ : St)) (by kernel_rfl) (tsI 6 trivial) ?_
     refine awd_one (i := 6) (by kernel_rfl) ?_
     refine dsq (ob := True) (st' := (⟨99, [sI 13 n, e27_18], [e27_0 c0 c1 c2 c3 c4, (40001, [], .dict (.pr (.int .i64) t3) (.int .i64) (mset l40001 (c, (rule, (fromv, over))) n))]⟩ : St)) rfl (by kernel_rfl) trivial ?_
     refine awd_done (by kernel_rfl) ?_
     refine thenQ_n ?_
     refine sr ?_
     refine rq 2 (ob := (Ts 2 True)) (st' := (⟨99, [sI 8 n, e27_18], [e27_0 c0 c1 c2 c3 c4, (40001, [], .dict (.pr (.int .i64) t3) (.int .i64) (mset l40001 (c, (rule, (fromv, over))) n))]⟩ : St)) (by kernel_rfl) (tsI 2 trivial) ?_
     refine nn ?_
     refine aw_ret ?_
     exact lret_r (σ := Int × (List ((Int × (Int × (Int × Int))) × Int))) (A := fun y => .v (.c (.pI y.1))) (H := fun y => [hB 40000 [.pI c0, .pI c1, .pI c2, .p (.sl (.pr (.int .i64) (.sl (.int .i64)))) c3, .pS c4, .own 40001], (40001, [], .dict (.pr (.int .i64) t3) (.int .i64) y.2)]) (ob := True) (n, (mset l40001 (c, (rule, (fromv, over))) n)) (by kernel_rfl) trivial rfl (by kernel_rfl) (by kernel_rfl) (by kernel_rfl) h
    ·refine aw_block ?_
     refine aw_loop (σ := Int × Int × (List ((Int × (Int × (Int × Int))) × Int))) (fun s => (⟨99, [e27_12, sI 1 c, sI 2 rule, sp 7 7, e27_6 c3 c rule, sp 10 10, sI 13 s.1, sI 14 s.2.1, e27_18], [e27_25 fromv over, e27_19 c rule fromv over, e27_0 c0 c1 c2 c3 c4, (40001, [], .dict (.pr (.int .i64) t3) (.int .i64) s.2.2)]⟩ : St)) (fun s X => VCc100_l2 c0 c3 c4 R c rule fromv over K s.1 s.2.1 s.2.2 X) (s0 := ((0 : Int), (fromv + (1 : Int)), c5)) (fun s X2 h => ?_) h
     obtain ⟨n, endv, l40001⟩ := s
     have h : VCc100_l2 c0 c3 c4 R c rule fromv over K n endv l40001 X2 := h
     unfold VCc100_l2 at h
     refine aw_seq ?_
     refine sr ?_
     refine rq 4 (ob := (Ts 4 True)) (st' := (⟨99, [e27_12, sI 1 c, sI 2 rule, sp 7 7, e27_6 c3 c rule, sp 10 10, sI 13 n, sI 14 endv, sB 65 (decide (endv < over)), e27_18], [e27_25 fromv over, e27_19 c rule fromv over, e27_0 c0 c1 c2 c3 c4, e27_7 l40001]⟩ : St)) (by kernel_rfl) (tsI 4 trivial) ?_
     refine nn ?_
     refine aw_cond (b := (decide (endv < over))) (by kernel_rfl) (fun hb => ?_) (fun hb => ?_)
     ·have h := h.1 hb
      refine aw_skip ?_
      refine thenQ_n ?_
      refine aw_seq ?_
      refine aw_block ?_
      refine aw_seq ?_
      refine aw_conv [.ren 7 30100, .ren 10 30101] (st' := (⟨99, [e27_12, sI 1 c, sI 2 rule, e27_29, e27_6 c3 c rule, e27_28, sI 13 n, sI 14 endv, sB 65 (decide (endv < over)), e27_18], [e27_10 fromv over, e27_5 c rule fromv over, e27_0 c0 c1 c2 c3 c4, e27_7 l40001]⟩ : St)) (by kernel_rfl) ?_
      refine awd_begin [30100, 30101, 40000, 40001] (by kernel_rfl) ?_
      obtain ⟨o1, h⟩ := h
      refine drq (by kernel_rfl) [0, 1, 2, 3, 4, 6] (ob := (Ts 2 (inIdx (0 : Int) (((c3.getD (c).toNat ((0 : Int), ([] : LI))).2).drop (rule).toNat).length ∧ Ts 3 True))) (done' := [6, 4, 3, 2, 1, 0]) (st' := (⟨99, [e27_12, sI 1 c, sI 2 rule, e27_29, e27_6 c3 c rule, e27_28, sI 13 n, sI 14 endv, sp 68 40000, e27_24 c3 c rule, sp 72 30100, sI 74 endv, e27_18], [e27_10 fromv over, e27_5 c rule fromv over, e27_0 c0 c1 c2 c3 c4, e27_7 l40001]⟩ : St)) (by kernel_rfl) (tsI 2 ⟨o1, tsI 3 trivial⟩) ?_
      refine awd_one (i := 5) (by kernel_rfl) ?_
      refine dsq (ob := True) (st' := (⟨99, [e27_12, sI 1 c, sI 2 rule, e27_29, e27_6 c3 c rule, e27_28, sI 13 n, sI 14 endv, sp 68 40000, e27_24 c3 c rule, sI 73 fromv, sI 74 endv, e27_18], [e27_10 fromv over, e27_5 c rule fromv over, e27_0 c0 c1 c2 c3 c4, e27_7 l40001]⟩ : St)) rfl (by kernel_rfl) trivial ?_
      refine drq (by kernel_rfl) [7] (ob := (Ts 1 True)) (done' := [7, 5, 6, 4, 3, 2, 1, 0]) (st' := (⟨99, [e27_12, sI 1 c, sI 2 rule, e27_29, e27_6 c3 c rule, e27_28, sI 13 n, sI 14 endv, sp 68 40000, e27_24 c3 c rule, sA 75 [.pI fromv, .pI endv], e27_18], [e27_10 fromv over, e27_5 c rule fromv over, e27_0 c0 c1 c2 c3 c4, e27_7 l40001]⟩ : St)) (by kernel_rfl) (tsI 1 trivial) ?_
      refine awd_one (i := 8) (by kernel_rfl) ?_
      refine adop_inlr [.t 6] [.c (.ptr 40000 0), .c (.pI ((((c3.getD (c).toNat ((0 : Int), ([] : LI))).2).drop (rule).toNat).getD ((0 : Int)).toNat (0 : Int))), .agg [.pI fromv, .pI endv]] [] rfl rfl rfl (by kernel_rfl) rfl (by kernel_rfl) Try.call86 (by kernel_rfl) (by kernel_rfl) Try.func86 rfl rfl (by kernel_rfl) ?_
      refine aw_conv [] (st' := (⟨87, [e27_12, e27_1 c3 c rule, sA 2 [.pI fromv, .pI endv], e27_21, sI 88 c, sI 89 rule, e27_22, e27_4 c3 c rule, e27_23, sI 100 n, sI 101 endv, sp 155 40000, sI 158 ((((c3.getD (c).toNat ((0 : Int), ([] : LI))).2).drop (rule).toNat).getD ((0 : Int)).toNat (0 : Int)), sA 162 [.pI fromv, .pI endv], e27_13], [e27_10 fromv over, e27_5 c rule fromv over, e27_0 c0 c1 c2 c3 c4, e27_7 l40001]⟩ : St)) (by kernel_rfl) ?_
      refine withJoinR (σ := Int × (List ((Int × (Int × (Int × Int))) × Int))) (fun s => (⟨87, [sI 6 s.1, e27_21, sI 88 c, sI 89 rule, e27_22, e27_4 c3 c rule, e27_23, sI 100 n, sI 101 endv, e27_13], [e27_10 fromv over, e27_5 c rule fromv over, e27_0 c0 c1 c2 c3 c4, (40001, [], .dict (.pr (.int .i64) t3) (.int .i64) s.2)]⟩ : St)) (fun s => VCc100_k5 R c rule over n endv X2 s.1 s.2) (fun s h => ?_) (fun rest6 => ?_)
      ·obtain ⟨v6, l400012⟩ := s
       have h : VCc100_k5 R c rule over n endv X2 v6 l400012 := h
       unfold VCc100_k5 at h
       refine inlR_n (ob := True) (.v (.c (.pI v6))) (by kernel_rfl) trivial rfl ?_
       refine dpr (st' := (⟨99, [e27_12, sI 1 c, sI 2 rule, e27_29, e27_6 c3 c rule, e27_28, sI 13 n, sI 14 endv, sI 76 v6, e27_18], [e27_10 fromv over, e27_5 c rule fromv over, e27_0 c0 c1 c2 c3 c4, e27_11 l400012]⟩ : St)) (by kernel_rfl) ?_
       refine drq (by kernel_rfl) [9] (ob := (Ts 1 True)) (done' := [9, 8, 7, 5, 6, 4, 3, 2, 1, 0]) (st' := (⟨99, [e27_12, sI 1 c, sI 2 rule, e27_29, e27_6 c3 c rule, e27_28, sI 13 n, sI 14 endv, sI 15 v6, e27_18], [e27_10 fromv over, e27_5 c rule fromv over, e27_0 c0 c1 c2 c3 c4, e27_11 l400012]⟩ : St)) (by kernel_rfl) (tsI 1 trivial) ?_
       refine awd_done (by kernel_rfl) ?_
       refine thenQ_n ?_
       refine sr ?_
       refine rq 2 (ob := (Ts 2 True)) (st' := (⟨99, [e27_12, sI 1 c, sI 2 rule, e27_29, e27_6 c3 c rule, e27_28, sI 13 n, sI 14 endv, sI 15 v6, sB 78 (decide ((0 : Int) < v6)), e27_18], [e27_10 fromv over, e27_5 c rule fromv over, e27_0 c0 c1 c2 c3 c4, e27_11 l400012]⟩ : St)) (by kernel_rfl) (tsI 2 trivial) ?_
       refine nn ?_
       refine withJoin (σ := Int × (List ((Int × (Int × (Int × Int))) × Int))) (fun s => (⟨99, [e27_12, sI 1 c, sI 2 rule, e27_29, e27_6 c3 c rule, e27_28, sI 13 s.1, sI 14 endv, e27_18], [e27_10 fromv over, e27_5 c rule fromv over, e27_0 c0 c1 c2 c3 c4, (40001, [], .dict (.pr (.int .i64) t3) (.int .i64) s.2)]⟩ : St)) (fun s => VCc100_k6 endv X2 s.1 s.2) (fun s h => ?_) (fun rest5 => ?_)
       ·obtain ⟨n2, l400013⟩ := s
        have h : VCc100_k6 endv X2 n2 l400013 := h
        unfold VCc100_k6 at h
        refine blockQ_n ?_
        refine thenQ_n ?_
        refine aw_region ?_
        obtain ⟨o1, h⟩ := h
        refine rq 3 (ob := (Ts 1 (InR (endv + (1 : Int)) ∧ Ts 1 True))) (st' := (⟨99, [e27_12, sI 1 c, sI 2 rule, e27_29, e27_6 c3 c rule, e27_28, sI 13 n2, sI 14 (endv + (1 : Int)), e27_18], [e27_10 fromv over, e27_5 c rule fromv over, e27_0 c0 c1 c2 c3 c4, (40001, [], .dict (.pr (.int .i64) t3) (.int .i64) l400013)]⟩ : St)) (by kernel_rfl) (tsI 1 ⟨o1, tsI 1 trivial⟩) ?_
        refine awl_conv [.ren 30100 50100, .ren 30101 50101, .ren 50100 7, .ren 50101 10] (st' := (⟨99, [e27_12, sI 1 c, sI 2 rule, sp 7 7, e27_6 c3 c rule, sp 10 10, sI 13 n2, sI 14 (endv + (1 : Int)), e27_18], [e27_25 fromv over, e27_19 c rule fromv over, e27_0 c0 c1 c2 c3 c4, (40001, [], .dict (.pr (.int .i64) t3) (.int .i64) l400013)]⟩ : St)) (by kernel_rfl) ?_
        refine awl_nil ?_
        exact thenQ_n ⟨(n2, (endv + (1 : Int)), l400013), rfl, h⟩
       ·refine aw_cond (b := (decide ((0 : Int) < v6))) (by kernel_rfl) (fun hb => ?_) (fun hb => ?_)
        ·have h := h.1 hb
         refine aw_region ?_
         obtain ⟨o1, h⟩ := h
         refine rq 10 (ob := (Ts 5 (InR (rule + (1 : Int)) ∧ Ts 4 True))) (st' := (⟨99, [e27_12, sI 1 c, sI 2 rule, e27_29, e27_6 c3 c rule, e27_28, sI 14 endv, sI 79 n, sI 80 v6, sp 81 40000, sI 82 c, sI 84 (rule + (1 : Int)), sA 88 [.pI endv, .pI over], e27_18], [e27_10 fromv over, e27_5 c rule fromv over, e27_0 c0 c1 c2 c3 c4, e27_11 l400012]⟩ : St)) (by kernel_rfl) (tsI 5 ⟨o1, tsI 4 trivial⟩) ?_
         refine awl_lcall (σ := Int × (List ((Int × (Int × (Int × Int))) × Int))) [40000, 40001] [40000] [.c (.ptr 40000 0), .c (.pI c), .c (.pI (rule + (1 : Int))), .agg [.pI endv, .pI over]] [] (fun ret89v => .v (.c (.pI ret89v.1))) (fun ret89v => [hB 40000 [.pI c0, .pI c1, .pI c2, .p (.sl (.pr (.int .i64) (.sl (.int .i64)))) c3, .pS c4, .own 40001], (40001, [], .dict (.pr (.int .i64) t3) (.int .i64) ret89v.2)]) (fun (ret89v : Int × (List ((Int × (Int × (Int × Int))) × Int))) => VC124 v6 ret89v.1 (fun (ret90v : Int) => VC109 n ret90v (fun (ret91v : Int) => VCc100_k6 endv X2 ret91v ret89v.2))) [hB 40000 [.pI c0, .pI c1, .pI c2, .p (.sl (.pr (.int .i64) (.sl (.int .i64)))) c3, .pS c4, .own 40001], (40001, [], .dict (.pr (.int .i64) t3) (.int .i64) l400012)] (fun ret89v => (⟨99, [sI 89 ret89v.1, e27_12, sI 1 c, sI 2 rule, e27_29, e27_6 c3 c rule, e27_28, sI 14 endv, sI 79 n, sI 80 v6, sp 81 40000, sI 82 c, sI 84 (rule + (1 : Int)), sA 88 [.pI endv, .pI over], e27_18], [e27_0 c0 c1 c2 c3 c4, e27_26 ret89v, e27_10 fromv over, e27_5 c rule fromv over]⟩ : St)) rfl rfl (by kernel_rfl) rfl (by kernel_rfl) Try.call100 (by kernel_rfl) (by kernel_rfl) (by kernel_rfl) (fun _ _ => rfl) (fun _ => by kernel_rfl) (hR c (rule + (1 : Int)) endv over l400012 _ h) (fun ret89v h => ?_)
         refine lpr (st' := (⟨99, [e27_12, sI 1 c, sI 2 rule, e27_29, e27_6 c3 c rule, e27_28, sI 14 endv, sI 79 n, sI 80 v6, sI 89 ret89v.1, e27_18], [e27_10 fromv over, e27_5 c rule fromv over, e27_0 c0 c1 c2 c3 c4, e27_26 ret89v]⟩ : St)) (by kernel_rfl) ?_
         refine lcq (d := 90) [.d (.int .i64), .d (.int .i64)] (fun ret90v => (⟨99, [e27_12, sI 1 c, sI 2 rule, e27_29, e27_6 c3 c rule, e27_28, sI 14 endv, sI 79 n, sI 90 ret90v, e27_18], [e27_10 fromv over, e27_5 c rule fromv over, e27_0 c0 c1 c2 c3 c4, e27_26 ret89v]⟩ : St)) (by kernel_rfl) Try.call124 (fun _ => by kernel_rfl) (link124 v6 ret89v.1 _ h) (fun ret90v h => ?_)
         refine lcq (d := 91) [.d (.int .i64), .d (.int .i64)] (fun ret91v => (⟨99, [e27_12, sI 1 c, sI 2 rule, e27_29, e27_6 c3 c rule, e27_28, sI 14 endv, sI 91 ret91v, e27_18], [e27_10 fromv over, e27_5 c rule fromv over, e27_0 c0 c1 c2 c3 c4, e27_26 ret89v]⟩ : St)) (by kernel_rfl) Try.call109 (fun _ => by kernel_rfl) (link109 n ret90v _ h) (fun ret91v h => ?_)
         refine rq 1 (ob := (Ts 1 True)) (st' := (⟨99, [e27_12, sI 1 c, sI 2 rule, e27_29, e27_6 c3 c rule, e27_28, sI 13 ret91v, sI 14 endv, e27_18], [e27_10 fromv over, e27_5 c rule fromv over, e27_0 c0 c1 c2 c3 c4, e27_26 ret89v]⟩ : St)) (by kernel_rfl) (tsI 1 trivial) ?_
         refine awl_nil ?_
         exact rest5 (ret91v, ret89v.2) h
        ·have h := h.2 hb
         refine cpr (st' := (⟨99, [e27_12, sI 1 c, sI 2 rule, e27_29, e27_6 c3 c rule, e27_28, sI 13 n, sI 14 endv, e27_18], [e27_10 fromv over, e27_5 c rule fromv over, e27_0 c0 c1 c2 c3 c4, e27_11 l400012]⟩ : St)) (by kernel_rfl) ?_
         refine aw_skip ?_
         exact rest5 (n, l400012) h
      ·refine sr ?_
       refine rq 2 (ob := (Ts 2 True)) (st' := (⟨87, [e27_12, e27_1 c3 c rule, sp 5 5, e27_21, sI 88 c, sI 89 rule, e27_22, e27_4 c3 c rule, e27_23, sI 100 n, sI 101 endv, e27_13], [e27_16 fromv endv, e27_10 fromv over, e27_5 c rule fromv over, e27_0 c0 c1 c2 c3 c4, e27_7 l40001]⟩ : St)) (by kernel_rfl) (tsI 2 trivial) ?_
       refine nn ?_
       refine aw_seq ?_
       refine sr ?_
       refine rq 7 (ob := (Ts 7 True)) (st' := (⟨87, [e27_12, e27_1 c3 c rule, sp 5 5, sB 19 (decide (((((c3.getD (c).toNat ((0 : Int), ([] : LI))).2).drop (rule).toNat).getD ((0 : Int)).toNat (0 : Int)) < c0)), e27_21, sI 88 c, sI 89 rule, e27_22, e27_4 c3 c rule, e27_23, sI 100 n, sI 101 endv, e27_13], [e27_16 fromv endv, e27_10 fromv over, e27_5 c rule fromv over, e27_0 c0 c1 c2 c3 c4, e27_7 l40001]⟩ : St)) (by kernel_rfl) (tsI 7 trivial) ?_
       refine nn ?_
       refine aw_cond (b := (decide (((((c3.getD (c).toNat ((0 : Int), ([] : LI))).2).drop (rule).toNat).getD ((0 : Int)).toNat (0 : Int)) < c0))) (by kernel_rfl) (fun hb => ?_) (fun hb => ?_)
       ·have h := h.1 hb
        refine aw_seq ?_
        refine aw_seq ?_
        refine awd_begin [] (by kernel_rfl) ?_
        obtain ⟨o1, o2, h⟩ := h
        refine drq (by kernel_rfl) [0, 1, 2, 3, 4, 5, 6, 7, 8, 9, 10, 11, 12, 13, 14, 15, 16, 17] (ob := (Ts 4 (InR (fromv + (1 : Int)) ∧ Ts 2 (Ti 6 ((decide (endv = (fromv + (1 : Int)))) = true → True) (((decide (endv = (fromv + (1 : Int)))) = true → inIdx fromv c4.length) ∧ Ti 3 ((decide (endv = (fromv + (1 : Int)))) = true → True) (Ts 1 True)))))) (done' := [17, 16, 15, 14, 13, 12, 11, 10, 9, 8, 7, 6, 5, 4, 3, 2, 1, 0]) (st' := (⟨87, [sB 37 ((decide (endv = (fromv + (1 : Int)))) && (decide ((c4.getD (fromv).toNat (0 : Int)) = ((((c3.getD (c).toNat ((0 : Int), ([] : LI))).2).drop (rule).toNat).getD ((0 : Int)).toNat (0 : Int))))), e27_21, sI 88 c, sI 89 rule, e27_22, e27_4 c3 c rule, e27_23, sI 100 n, sI 101 endv, e27_13], [e27_10 fromv over, e27_5 c rule fromv over, e27_0 c0 c1 c2 c3 c4, e27_7 l40001]⟩ : St)) (by kernel_rfl) (tsI 4 (⟨o1, tsI 2 (tiI 6 (fun _ => trivial) ⟨o2, tiI 3 (fun _ => trivial) (tsI 1 trivial)⟩)⟩)) ?_
        refine awd_done (by kernel_rfl) ?_
        refine thenQ_n ?_
        refine aw_cond (b := ((decide (endv = (fromv + (1 : Int)))) && (decide ((c4.getD (fromv).toNat (0 : Int)) = ((((c3.getD (c).toNat ((0 : Int), ([] : LI))).2).drop (rule).toNat).getD ((0 : Int)).toNat (0 : Int)))))) (by kernel_rfl) (fun hb => ?_) (fun hb => ?_)
        ·have h := h.1 hb
         refine sr ?_
         refine rq 1 (ob := (Ts 1 True)) (st' := (⟨87, [sI 6 (1 : Int), e27_21, sI 88 c, sI 89 rule, e27_22, e27_4 c3 c rule, e27_23, sI 100 n, sI 101 endv, e27_13], [e27_10 fromv over, e27_5 c rule fromv over, e27_0 c0 c1 c2 c3 c4, e27_7 l40001]⟩ : St)) (by kernel_rfl) (tsI 1 trivial) ?_
         refine nn ?_
         refine aw_ret ?_
         refine thenQ_r ?_
         refine thenQ_r ?_
         exact rest6 ((1 : Int), l40001) h
        ·have h := h.2 hb
         refine aw_skip ?_
         refine thenQ_n ?_
         refine sr ?_
         refine rq 1 (ob := (Ts 1 True)) (st' := (⟨87, [sI 6 (0 : Int), e27_21, sI 88 c, sI 89 rule, e27_22, e27_4 c3 c rule, e27_23, sI 100 n, sI 101 endv, e27_13], [e27_10 fromv over, e27_5 c rule fromv over, e27_0 c0 c1 c2 c3 c4, e27_7 l40001]⟩ : St)) (by kernel_rfl) (tsI 1 trivial) ?_
         refine nn ?_
         refine aw_ret ?_
         refine thenQ_r ?_
         exact rest6 ((0 : Int), l40001) h
       ·have h := h.2 hb
        refine aw_skip ?_
        refine thenQ_n ?_
        refine sr ?_
        refine rq 5 (ob := (Ts 5 True)) (st' := (⟨87, [e27_12, e27_1 c3 c rule, sp 5 5, sp 7 7, e27_21, sI 88 c, sI 89 rule, e27_22, e27_4 c3 c rule, e27_23, sI 100 n, sI 101 endv, e27_13], [e27_16 fromv endv, e27_3 c3 c rule fromv endv, e27_10 fromv over, e27_5 c rule fromv over, e27_0 c0 c1 c2 c3 c4, e27_7 l40001]⟩ : St)) (by kernel_rfl) (tsI 5 trivial) ?_
        refine nn ?_
        refine aw_seq ?_
        refine aw_seq ?_
        refine awd_begin [] (by kernel_rfl) ?_
        refine drq (by kernel_rfl) [0, 1, 2, 3, 4, 5, 6, 7, 8, 9, 10] (ob := (Ts 11 True)) (done' := [10, 9, 8, 7, 6, 5, 4, 3, 2, 1, 0]) (st' := (⟨87, [e27_12, e27_1 c3 c rule, sp 5 5, sp 7 7, sI 8 ((mget l40001 ((-1 : Int), (((((c3.getD (c).toNat ((0 : Int), ([] : LI))).2).drop (rule).toNat).getD ((0 : Int)).toNat (0 : Int)), (fromv, endv)))).getD (0 : Int)), sB 9 ((mget l40001 ((-1 : Int), (((((c3.getD (c).toNat ((0 : Int), ([] : LI))).2).drop (rule).toNat).getD ((0 : Int)).toNat (0 : Int)), (fromv, endv)))).isSome), e27_21, sI 88 c, sI 89 rule, e27_22, e27_4 c3 c rule, e27_23, sI 100 n, sI 101 endv, e27_13], [e27_16 fromv endv, e27_3 c3 c rule fromv endv, e27_10 fromv over, e27_5 c rule fromv over, e27_0 c0 c1 c2 c3 c4, e27_7 l40001]⟩ : St)) (by kernel_rfl) (tsI 11 trivial) ?_
        refine awd_done (by kernel_rfl) ?_
        refine thenQ_n ?_
        refine sr ?_
        refine rq 1 (ob := (Ts 1 True)) (st' := (⟨87, [e27_12, e27_1 c3 c rule, sp 5 5, sp 7 7, sI 8 ((mget l40001 ((-1 : Int), (((((c3.getD (c).toNat ((0 : Int), ([] : LI))).2).drop (rule).toNat).getD ((0 : Int)).toNat (0 : Int)), (fromv, endv)))).getD (0 : Int)), sB 50 ((mget l40001 ((-1 : Int), (((((c3.getD (c).toNat ((0 : Int), ([] : LI))).2).drop (rule).toNat).getD ((0 : Int)).toNat (0 : Int)), (fromv, endv)))).isSome), e27_21, sI 88 c, sI 89 rule, e27_22, e27_4 c3 c rule, e27_23, sI 100 n, sI 101 endv, e27_13], [e27_16 fromv endv, e27_3 c3 c rule fromv endv, e27_10 fromv over, e27_5 c rule fromv over, e27_0 c0 c1 c2 c3 c4, e27_7 l40001]⟩ : St)) (by kernel_rfl) (tsI 1 trivial) ?_
        refine nn ?_
        refine aw_cond (b := (mget l40001 ((-1 : Int), (((((c3.getD (c).toNat ((0 : Int), ([] : LI))).2).drop (rule).toNat).getD ((0 : Int)).toNat (0 : Int)), (fromv, endv)))).isSome) (by kernel_rfl) (fun hb => ?_) (fun hb => ?_)
        ·have h := h.1 hb
         refine sr ?_
         refine rq 2 (ob := (Ts 2 True)) (st' := (⟨87, [sI 6 ((mget l40001 ((-1 : Int), (((((c3.getD (c).toNat ((0 : Int), ([] : LI))).2).drop (rule).toNat).getD ((0 : Int)).toNat (0 : Int)), (fromv, endv)))).getD (0 : Int)), e27_21, sI 88 c, sI 89 rule, e27_22, e27_4 c3 c rule, e27_23, sI 100 n, sI 101 endv, e27_13], [e27_10 fromv over, e27_5 c rule fromv over, e27_0 c0 c1 c2 c3 c4, e27_7 l40001]⟩ : St)) (by kernel_rfl) (tsI 2 trivial) ?_
         refine nn ?_
         refine aw_ret ?_
         refine thenQ_r ?_
         exact rest6 (((mget l40001 ((-1 : Int), (((((c3.getD (c).toNat ((0 : Int), ([] : LI))).2).drop (rule).toNat).getD ((0 : Int)).toNat (0 : Int)), (fromv, endv)))).getD (0 : Int)), l40001) h
        ·have h := h.2 hb
         refine aw_skip ?_
         refine thenQ_n ?_
         refine sr ?_
         refine rq 1 (ob := (Ts 1 True)) (st' := (⟨87, [e27_12, e27_1 c3 c rule, sp 5 5, sp 7 7, sI 10 (0 : Int), e27_21, sI 88 c, sI 89 rule, e27_22, e27_4 c3 c rule, e27_23, sI 100 n, sI 101 endv, e27_13], [e27_16 fromv endv, e27_3 c3 c rule fromv endv, e27_10 fromv over, e27_5 c rule fromv over, e27_0 c0 c1 c2 c3 c4, e27_7 l40001]⟩ : St)) (by kernel_rfl) (tsI 1 trivial) ?_
         refine nn ?_
         refine aw_seq ?_
         refine sr ?_
         refine rq 7 (ob := (Ts 7 True)) (st' := (⟨87, [e27_12, e27_1 c3 c rule, sp 5 5, sp 7 7, sI 10 (0 : Int), e27_8 c3, e27_14 c3, sI 58 (0 : Int), e27_21, sI 88 c, sI 89 rule, e27_22, e27_4 c3 c rule, e27_23, sI 100 n, sI 101 endv, e27_13], [e27_16 fromv endv, e27_3 c3 c rule fromv endv, e27_10 fromv over, e27_5 c rule fromv over, e27_0 c0 c1 c2 c3 c4, e27_7 l40001]⟩ : St)) (by kernel_rfl) (tsI 7 trivial) ?_
         refine nn ?_
         refine withJoin (σ := Int × (List ((Int × (Int × (Int × Int))) × Int))) (fun s => (⟨87, [e27_12, sp 7 7, sI 10 s.1, e27_21, sI 88 c, sI 89 rule, e27_22, e27_4 c3 c rule, e27_23, sI 100 n, sI 101 endv, e27_13], [e27_3 c3 c rule fromv endv, e27_10 fromv over, e27_5 c rule fromv over, e27_0 c0 c1 c2 c3 c4, (40001, [], .dict (.pr (.int .i64) t3) (.int .i64) s.2)]⟩ : St)) (fun s => VCc100_k7 c3 R c rule fromv over n endv X2 s.1 s.2) (fun s h => ?_) (fun rest7 => ?_)
         ·obtain ⟨n2, l400012⟩ := s
          have h : VCc100_k7 c3 R c rule fromv over n endv X2 n2 l400012 := h
          unfold VCc100_k7 at h
          refine thenQ_n ?_
          refine aw_seq ?_
          refine awd_begin [40001] (by kernel_rfl) ?_
          refine drq (by kernel_rfl) [0, 1, 2, 3, 4, 5] (ob := (Ts 6 True)) (done' := [5, 4, 3, 2, 1, 0]) (st' := (⟨87, [sI 10 n2, s1 83 (.own 40001), sA 84 [.pI (-1 : Int), .pI ((((c3.getD (c).toNat ((0 : Int), ([] : LI))).2).drop (rule).toNat).getD ((0 : Int)).toNat (0 : Int)), .pI fromv, .pI endv], sI 85 n2, e27_21, sI 88 c, sI 89 rule, e27_22, e27_4 c3 c rule, e27_23, sI 100 n, sI 101 endv, e27_13], [e27_10 fromv over, e27_5 c rule fromv over, e27_0 c0 c1 c2 c3 c4, e27_11 l400012]⟩ : St)) (by kernel_rfl) (tsI 6 trivial) ?_
          refine awd_one (i := 6) (by kernel_rfl) ?_
          refine dsq (ob := True) (st' := (⟨87, [sI 10 n2, e27_21, sI 88 c, sI 89 rule, e27_22, e27_4 c3 c rule, e27_23, sI 100 n, sI 101 endv, e27_13], [e27_10 fromv over, e27_5 c rule fromv over, e27_0 c0 c1 c2 c3 c4, (40001, [], .dict (.pr (.int .i64) t3) (.int .i64) (mset l400012 ((-1 : Int), (((((c3.getD (c).toNat ((0 : Int), ([] : LI))).2).drop (rule).toNat).getD ((0 : Int)).toNat (0 : Int)), (fromv, endv))) n2))]⟩ : St)) rfl (by kernel_rfl) trivial ?_
          refine awd_done (by kernel_rfl) ?_
          refine thenQ_n ?_
          refine sr ?_
          refine rq 2 (ob := (Ts 2 True)) (st' := (⟨87, [sI 6 n2, e27_21, sI 88 c, sI 89 rule, e27_22, e27_4 c3 c rule, e27_23, sI 100 n, sI 101 endv, e27_13], [e27_10 fromv over, e27_5 c rule fromv over, e27_0 c0 c1 c2 c3 c4, (40001, [], .dict (.pr (.int .i64) t3) (.int .i64) (mset l400012 ((-1 : Int), (((((c3.getD (c).toNat ((0 : Int), ([] : LI))).2).drop (rule).toNat).getD ((0 : Int)).toNat (0 : Int)), (fromv, endv))) n2))]⟩ : St)) (by kernel_rfl) (tsI 2 trivial) ?_
          refine nn ?_
          refine aw_ret ?_
          exact rest6 (n2, (mset l400012 ((-1 : Int), (((((c3.getD (c).toNat ((0 : Int), ([] : LI))).2).drop (rule).toNat).getD ((0 : Int)).toNat (0 : Int)), (fromv, endv))) n2)) h
         ·refine aw_block ?_
          refine aw_loop (σ := Int × Int × (List ((Int × (Int × (Int × Int))) × Int))) (fun s => (⟨87, [e27_12, e27_1 c3 c rule, sp 5 5, sp 7 7, sI 10 s.1, e27_8 c3, e27_14 c3, sI 58 s.2.1, e27_21, sI 88 c, sI 89 rule, e27_22, e27_4 c3 c rule, e27_23, sI 100 n, sI 101 endv, e27_13], [e27_16 fromv endv, e27_3 c3 c rule fromv endv, e27_10 fromv over, e27_5 c rule fromv over, e27_0 c0 c1 c2 c3 c4, (40001, [], .dict (.pr (.int .i64) t3) (.int .i64) s.2.2)]⟩ : St)) (fun s X => VCc100_l3 c0 c3 R c rule fromv over n endv X2 s.1 s.2.1 s.2.2 X) (s0 := ((0 : Int), (0 : Int), l40001)) (fun s X3 h => ?_) h
          obtain ⟨n2, v58, l400012⟩ := s
          have h : VCc100_l3 c0 c3 R c rule fromv over n endv X2 n2 v58 l400012 X3 := h
          unfold VCc100_l3 at h
          refine sr ?_
          refine rq 1 (ob := (Ts 1 True)) (st' := (⟨87, [e27_12, e27_1 c3 c rule, sp 5 5, sp 7 7, sI 10 n2, e27_8 c3, e27_14 c3, sI 58 v58, sB 59 (decide (v58 < (c3.length : Int))), e27_21, sI 88 c, sI 89 rule, e27_22, e27_4 c3 c rule, e27_23, sI 100 n, sI 101 endv, e27_13], [e27_16 fromv endv, e27_3 c3 c rule fromv endv, e27_10 fromv over, e27_5 c rule fromv over, e27_0 c0 c1 c2 c3 c4, e27_11 l400012]⟩ : St)) (by kernel_rfl) (tsI 1 trivial) ?_
          refine nn ?_
          refine aw_seq ?_
          refine aw_cond (b := (decide (v58 < (c3.length : Int)))) (by kernel_rfl) (fun hb => ?_) (fun hb => ?_)
          ·have h := h.1 hb
           refine aw_skip ?_
           refine thenQ_n ?_
           refine aw_seq ?_
           refine aw_block ?_
           refine sr ?_
           obtain ⟨o1, h⟩ := h
           refine rq 6 (ob := (Ts 1 (inIdx v58 c3.length ∧ Ts 4 True))) (st' := (⟨87, [e27_12, e27_1 c3 c rule, sp 5 5, sp 7 7, sI 10 n2, sI 11 v58, sp 12 12, e27_8 c3, e27_14 c3, sI 58 v58, e27_21, sI 88 c, sI 89 rule, e27_22, e27_4 c3 c rule, e27_23, sI 100 n, sI 101 endv, e27_13], [e27_16 fromv endv, e27_3 c3 c rule fromv endv, e27_27 c3 v58, e27_10 fromv over, e27_5 c rule fromv over, e27_0 c0 c1 c2 c3 c4, e27_11 l400012]⟩ : St)) (by kernel_rfl) (tsI 1 ⟨o1, tsI 4 trivial⟩) ?_
           refine nn ?_
           refine aw_seq ?_
           refine awd_begin [] (by kernel_rfl) ?_
           obtain ⟨o1, h⟩ := h
           refine drq (by kernel_rfl) [0, 1, 2, 3, 4, 5, 6, 7, 8, 9] (ob := (Ts 8 (InR (((((c3.getD (c).toNat ((0 : Int), ([] : LI))).2).drop (rule).toNat).getD ((0 : Int)).toNat (0 : Int)) - c0) ∧ Ts 1 True))) (done' := [9, 8, 7, 6, 5, 4, 3, 2, 1, 0]) (st' := (⟨87, [e27_12, e27_1 c3 c rule, sp 5 5, sp 7 7, sI 10 n2, sI 11 v58, e27_8 c3, e27_14 c3, sI 58 v58, e27_20 c3 v58 c rule c0, e27_21, sI 88 c, sI 89 rule, e27_22, e27_4 c3 c rule, e27_23, sI 100 n, sI 101 endv, e27_13], [e27_16 fromv endv, e27_3 c3 c rule fromv endv, e27_10 fromv over, e27_5 c rule fromv over, e27_0 c0 c1 c2 c3 c4, e27_11 l400012]⟩ : St)) (by kernel_rfl) (tsI 8 ⟨o1, tsI 1 trivial⟩) ?_
           refine awd_done (by kernel_rfl) ?_
           refine thenQ_n ?_
           refine withJoin (σ := Int × (List ((Int × (Int × (Int × Int))) × Int))) (fun s => (⟨87, [e27_12, e27_1 c3 c rule, sp 5 5, sp 7 7, sI 10 s.1, e27_8 c3, e27_14 c3, sI 58 v58, e27_21, sI 88 c, sI 89 rule, e27_22, e27_4 c3 c rule, e27_23, sI 100 n, sI 101 endv, e27_13], [e27_16 fromv endv, e27_3 c3 c rule fromv endv, e27_10 fromv over, e27_5 c rule fromv over, e27_0 c0 c1 c2 c3 c4, (40001, [], .dict (.pr (.int .i64) t3) (.int .i64) s.2)]⟩ : St)) (fun s => VCc100_k8 v58 X3 s.1 s.2) (fun s h => ?_) (fun rest8 => ?_)
           ·obtain ⟨n3, l400013⟩ := s
            have h : VCc100_k8 v58 X3 n3 l400013 := h
            unfold VCc100_k8 at h
            refine blockQ_n ?_
            refine thenQ_n ?_
            refine aw_region ?_
            obtain ⟨o1, h⟩ := h
            refine rq 2 (ob := (InR (v58 + (1 : Int)) ∧ Ts 1 True)) (st' := (⟨87, [e27_12, e27_1 c3 c rule, sp 5 5, sp 7 7, sI 10 n3, e27_8 c3, e27_14 c3, sI 58 (v58 + (1 : Int)), e27_21, sI 88 c, sI 89 rule, e27_22, e27_4 c3 c rule, e27_23, sI 100 n, sI 101 endv, e27_13], [e27_16 fromv endv, e27_3 c3 c rule fromv endv, e27_10 fromv over, e27_5 c rule fromv over, e27_0 c0 c1 c2 c3 c4, (40001, [], .dict (.pr (.int .i64) t3) (.int .i64) l400013)]⟩ : St)) (by kernel_rfl) (⟨o1, tsI 1 trivial⟩) ?_
            refine awl_nil ?_
            exact thenQ_n ⟨(n3, (v58 + (1 : Int)), l400013), rfl, h⟩
           ·refine aw_cond (b := (decide ((c3.getD (v58).toNat ((0 : Int), ([] : LI))).1 = (((((c3.getD (c).toNat ((0 : Int), ([] : LI))).2).drop (rule).toNat).getD ((0 : Int)).toNat (0 : Int)) - c0)))) (by kernel_rfl) (fun hb => ?_) (fun hb => ?_)
            ·have h := h.1 hb
             refine aw_region ?_
             refine rq 4 (ob := (Ts 4 True)) (st' := (⟨87, [e27_12, e27_1 c3 c rule, sp 5 5, sp 7 7, e27_8 c3, e27_14 c3, sI 58 v58, sI 73 n2, sp 74 40000, sI 75 v58, sA 76 [.pI fromv, .pI endv], e27_21, sI 88 c, sI 89 rule, e27_22, e27_4 c3 c rule, e27_23, sI 100 n, sI 101 endv, e27_13], [e27_16 fromv endv, e27_3 c3 c rule fromv endv, e27_10 fromv over, e27_5 c rule fromv over, e27_0 c0 c1 c2 c3 c4, e27_11 l400012]⟩ : St)) (by kernel_rfl) (tsI 4 trivial) ?_
             refine awl_lcall (σ := Int × (List ((Int × (Int × (Int × Int))) × Int))) [40000, 40001] [40000] [.c (.ptr 40000 0), .c (.pI v58), .c (.pI (0 : Int)), .agg [.pI fromv, .pI endv]] [] (fun ret77v => .v (.c (.pI ret77v.1))) (fun ret77v => [hB 40000 [.pI c0, .pI c1, .pI c2, .p (.sl (.pr (.int .i64) (.sl (.int .i64)))) c3, .pS c4, .own 40001], (40001, [], .dict (.pr (.int .i64) t3) (.int .i64) ret77v.2)]) (fun (ret77v : Int × (List ((Int × (Int × (Int × Int))) × Int))) => VC109 n2 ret77v.1 (fun (ret78v : Int) => VCc100_k8 v58 X3 ret78v ret77v.2)) [hB 40000 [.pI c0, .pI c1, .pI c2, .p (.sl (.pr (.int .i64) (.sl (.int .i64)))) c3, .pS c4, .own 40001], (40001, [], .dict (.pr (.int .i64) t3) (.int .i64) l400012)] (fun ret77v => (⟨87, [sI 77 ret77v.1, e27_12, e27_1 c3 c rule, sp 5 5, sp 7 7, e27_8 c3, e27_14 c3, sI 58 v58, sI 73 n2, sp 74 40000, sI 75 v58, sA 76 [.pI fromv, .pI endv], e27_21, sI 88 c, sI 89 rule, e27_22, e27_4 c3 c rule, e27_23, sI 100 n, sI 101 endv, e27_13], [e27_0 c0 c1 c2 c3 c4, e27_17 ret77v, e27_16 fromv endv, e27_3 c3 c rule fromv endv, e27_10 fromv over, e27_5 c rule fromv over]⟩ : St)) rfl rfl (by kernel_rfl) rfl (by kernel_rfl) Try.call100 (by kernel_rfl) (by kernel_rfl) (by kernel_rfl) (fun _ _ => rfl) (fun _ => by kernel_rfl) (hR v58 (0 : Int) fromv endv l400012 _ h) (fun ret77v h => ?_)
             refine lpr (st' := (⟨87, [e27_12, e27_1 c3 c rule, sp 5 5, sp 7 7, e27_8 c3, e27_14 c3, sI 58 v58, sI 73 n2, sI 77 ret77v.1, e27_21, sI 88 c, sI 89 rule, e27_22, e27_4 c3 c rule, e27_23, sI 100 n, sI 101 endv, e27_13], [e27_16 fromv endv, e27_3 c3 c rule fromv endv, e27_10 fromv over, e27_5 c rule fromv over, e27_0 c0 c1 c2 c3 c4, e27_17 ret77v]⟩ : St)) (by kernel_rfl) ?_
             refine lcq (d := 78) [.d (.int .i64), .d (.int .i64)] (fun ret78v => (⟨87, [e27_12, e27_1 c3 c rule, sp 5 5, sp 7 7, e27_8 c3, e27_14 c3, sI 58 v58, sI 78 ret78v, e27_21, sI 88 c, sI 89 rule, e27_22, e27_4 c3 c rule, e27_23, sI 100 n, sI 101 endv, e27_13], [e27_16 fromv endv, e27_3 c3 c rule fromv endv, e27_10 fromv over, e27_5 c rule fromv over, e27_0 c0 c1 c2 c3 c4, e27_17 ret77v]⟩ : St)) (by kernel_rfl) Try.call109 (fun _ => by kernel_rfl) (link109 n2 ret77v.1 _ h) (fun ret78v h => ?_)
             refine rq 1 (ob := (Ts 1 True)) (st' := (⟨87, [e27_12, e27_1 c3 c rule, sp 5 5, sp 7 7, sI 10 ret78v, e27_8 c3, e27_14 c3, sI 58 v58, e27_21, sI 88 c, sI 89 rule, e27_22, e27_4 c3 c rule, e27_23, sI 100 n, sI 101 endv, e27_13], [e27_16 fromv endv, e27_3 c3 c rule fromv endv, e27_10 fromv over, e27_5 c rule fromv over, e27_0 c0 c1 c2 c3 c4, e27_17 ret77v]⟩ : St)) (by kernel_rfl) (tsI 1 trivial) ?_
             refine awl_nil ?_
             exact rest8 (ret78v, ret77v.2) h
            ·have h := h.2 hb
             refine cpr (st' := (⟨87, [e27_12, e27_1 c3 c rule, sp 5 5, sp 7 7, sI 10 n2, e27_8 c3, e27_14 c3, sI 58 v58, e27_21, sI 88 c, sI 89 rule, e27_22, e27_4 c3 c rule, e27_23, sI 100 n, sI 101 endv, e27_13], [e27_16 fromv endv, e27_3 c3 c rule fromv endv, e27_10 fromv over, e27_5 c rule fromv over, e27_0 c0 c1 c2 c3 c4, e27_11 l400012]⟩ : St)) (by kernel_rfl) ?_
             refine aw_skip ?_
             exact rest8 (n2, l400012) h
          ·have h := h.2 hb
           refine cpr (st' := (⟨87, [e27_12, sp 7 7, sI 10 n2, e27_21, sI 88 c, sI 89 rule, e27_22, e27_4 c3 c rule, e27_23, sI 100 n, sI 101 endv, e27_13], [e27_3 c3 c rule fromv endv, e27_10 fromv over, e27_5 c rule fromv over, e27_0 c0 c1 c2 c3 c4, e27_11 l400012]⟩ : St)) (by kernel_rfl) ?_
           refine aw_exit ?_
           refine thenQ_x ?_
           refine thenQ_x ?_
           refine blockQ_hit ?_
           exact rest7 (n2, l400012) h
     ·have h := h.2 hb
      refine cpr (st' := (⟨99, [e27_12, sp 10 10, sI 13 n, e27_18], [e27_19 c rule fromv over, e27_0 c0 c1 c2 c3 c4, e27_7 l40001]⟩ : St)) (by kernel_rfl) ?_
      refine aw_exit ?_
      refine thenQ_x ?_
      refine thenQ_x ?_
      refine blockQ_hit ?_
      exact rest4 (n, l40001) h

def VCc100_it (c0 : Int) (c1 : Int) (c2 : Int) (c3 : (List (Int × LI))) (c4 : LI) : Nat → Int → Int → Int → Int → (List ((Int × (Int × (Int × Int))) × Int)) → (Int × (List ((Int × (Int × (Int × Int))) × Int)) → Prop) → Prop
  | 0 => fun _ _ _ _ _ _ => False
  | n + 1 => fun c rule fromv over c5 K => VCc100 c0 c1 c2 c3 c4 (VCc100_it c0 c1 c2 c3 c4 n) c rule fromv over c5 K

def VCcr100 (c0 : Int) (c1 : Int) (c2 : Int) (c3 : (List (Int × LI))) (c4 : LI) (c : Int) (rule : Int) (fromv : Int) (over : Int) (c5 : (List ((Int × (Int × (Int × Int))) × Int))) (K : Int × (List ((Int × (Int × (Int × Int))) × Int)) → Prop) : Prop := ∃ n, VCc100_it c0 c1 c2 c3 c4 n c rule fromv over c5 K

theorem linkci100 (c0 : Int) (c1 : Int) (c2 : Int) (c3 : (List (Int × LI))) (c4 : LI) : ∀ (n : Nat) (c : Int) (rule : Int) (fromv : Int) (over : Int) (c5 : (List ((Int × (Int × (Int × Int))) × Int))) (K : Int × (List ((Int × (Int × (Int × Int))) × Int)) → Prop), VCc100_it c0 c1 c2 c3 c4 n c rule fromv over c5 K → LCalls Try.prog 100 [40000, 40001] [40000] [hB 40000 [.pI c0, .pI c1, .pI c2, .p (.sl (.pr (.int .i64) (.sl (.int .i64)))) c3, .pS c4, .own 40001], (40001, [], .dict (.pr (.int .i64) t3) (.int .i64) c5)] [.c (.ptr 40000 0), .c (.pI c), .c (.pI rule), .agg [.pI fromv, .pI over]] (fun av hp' => ∃ y : Int × (List ((Int × (Int × (Int × Int))) × Int)), av = .v (.c (.pI y.1)) ∧ hp' = [hB 40000 [.pI c0, .pI c1, .pI c2, .p (.sl (.pr (.int .i64) (.sl (.int .i64)))) c3, .pS c4, .own 40001], (40001, [], .dict (.pr (.int .i64) t3) (.int .i64) y.2)] ∧ K y)
  | 0, _, _, _, _, _, _, h => False.elim h
  | n + 1, c, rule, fromv, over, c5, K, h => linkc100 c0 c1 c2 c3 c4 (VCc100_it c0 c1 c2 c3 c4 n) (linkci100 c0 c1 c2 c3 c4 n) c rule fromv over c5 K h

theorem linkcr100 (c0 : Int) (c1 : Int) (c2 : Int) (c3 : (List (Int × LI))) (c4 : LI) (c : Int) (rule : Int) (fromv : Int) (over : Int) (c5 : (List ((Int × (Int × (Int × Int))) × Int))) (K : Int × (List ((Int × (Int × (Int × Int))) × Int)) → Prop) (h : VCcr100 c0 c1 c2 c3 c4 c rule fromv over c5 K) : LCalls Try.prog 100 [40000, 40001] [40000] [hB 40000 [.pI c0, .pI c1, .pI c2, .p (.sl (.pr (.int .i64) (.sl (.int .i64)))) c3, .pS c4, .own 40001], (40001, [], .dict (.pr (.int .i64) t3) (.int .i64) c5)] [.c (.ptr 40000 0), .c (.pI c), .c (.pI rule), .agg [.pI fromv, .pI over]] (fun av hp' => ∃ y : Int × (List ((Int × (Int × (Int × Int))) × Int)), av = .v (.c (.pI y.1)) ∧ hp' = [hB 40000 [.pI c0, .pI c1, .pI c2, .p (.sl (.pr (.int .i64) (.sl (.int .i64)))) c3, .pS c4, .own 40001], (40001, [], .dict (.pr (.int .i64) t3) (.int .i64) y.2)] ∧ K y) := by
  obtain ⟨n, h⟩ := h
  exact linkci100 c0 c1 c2 c3 c4 n c rule fromv over c5 K h

abbrev e27a0 (g : (Int × (Int × (Int × (List (Int × LI)))))) (w : LI) : Nat × Path × Con := hB 30301 [.pI g.1, .pI g.2.1, .pI g.2.2.1, .p (.sl (.pr (.int .i64) (.sl (.int .i64)))) g.2.2.2, .pS w, .own 30300]
abbrev e27a1 (g : (Int × (Int × (Int × (List (Int × LI)))))) (w : LI) : Nat × Path × Con := hB 7 [.pI (-1 : Int), .pI (g.1 + g.2.2.1), .pI (0 : Int), .pI (w.length : Int)]
abbrev e27a2 : Nat × Path × Con := (30300, [], .dict (.pr (.int .i64) t3) (.int .i64) ([] : List ((Int × (Int × (Int × Int))) × Int)))
abbrev e27a3 (g : (Int × (Int × (Int × (List (Int × LI)))))) : Nat × Path × Con := hB 2 [.pI g.1, .pI g.2.1, .pI g.2.2.1, .p (.sl (.pr (.int .i64) (.sl (.int .i64)))) g.2.2.2]
abbrev e27a4 (g : (Int × (Int × (Int × (List (Int × LI)))))) (w : LI) : Nat × Path × Con := hB 40000 [.pI g.1, .pI g.2.1, .pI g.2.2.1, .p (.sl (.pr (.int .i64) (.sl (.int .i64)))) g.2.2.2, .pS w, .own 40001]
abbrev e27a5 (g : (Int × (Int × (Int × (List (Int × LI)))))) : Nat × Path × AV := s1 56 (.p (.sl (.pr (.int .i64) (.sl (.int .i64)))) g.2.2.2)
abbrev e27a6 (w : LI) : Nat × Path × Con := hB 5 [.pI (0 : Int), .pI (w.length : Int)]
abbrev e27a7 (l30300 : (List ((Int × (Int × (Int × Int))) × Int))) : Nat × Path × Con := (30300, [], .dict (.pr (.int .i64) t3) (.int .i64) l30300)
abbrev e27a8 (g : (Int × (Int × (Int × (List (Int × LI)))))) : Nat × Path × Con := hB 30100 [.pI g.1, .pI g.2.1, .pI g.2.2.1, .p (.sl (.pr (.int .i64) (.sl (.int .i64)))) g.2.2.2]
abbrev e27a9 (g : (Int × (Int × (Int × (List (Int × LI)))))) : Nat × Path × AV := sI 1 (g.1 + g.2.2.1)
abbrev e27a10 (g : (Int × (Int × (Int × (List (Int × LI)))))) (w : LI) : Nat × Path × Con := hB 9 [.pI g.1, .pI g.2.1, .pI g.2.2.1, .p (.sl (.pr (.int .i64) (.sl (.int .i64)))) g.2.2.2, .pS w, .own 7]
abbrev e27a11 (g : (Int × (Int × (Int × (List (Int × LI)))))) : Nat × Path × AV := sI 57 (g.2.2.2.length : Int)
abbrev e27a12 : Nat × Path × Con := (7, [], .dict (.pr (.int .i64) t3) (.int .i64) ([] : List ((Int × (Int × (Int × Int))) × Int)))
abbrev e27a13 (g : (Int × (Int × (Int × (List (Int × LI)))))) (w : LI) : Nat × Path × AV := sI 8 ((mget ([] : List ((Int × (Int × (Int × Int))) × Int)) ((-1 : Int), ((g.1 + g.2.2.1), ((0 : Int), (w.length : Int))))).getD (0 : Int))
abbrev e27a14 : Nat × Path × AV := sp 95 30301
abbrev e27a15 (ret77v : Int × (List ((Int × (Int × (Int × Int))) × Int))) : Nat × Path × Con := (40001, [], .dict (.pr (.int .i64) t3) (.int .i64) ret77v.2)
abbrev e27a16 (w : LI) : Nat × Path × AV := s1 1 (.pS w)
abbrev e27a17 : Nat × Path × AV := sp 0 30301
abbrev e27a18 (w : LI) : Nat × Path × AV := sA 76 [.pI (0 : Int), .pI (w.length : Int)]
-- coppicer/table.Trees
def VC27_k1 (K : Int × Int → Prop) (v5 : Int) (v6 : Int) : Prop :=
  K (v5, v6)

def VC27_k2 (K : Int × Int → Prop) (v6 : Int) (l30300 : (List ((Int × (Int × (Int × Int))) × Int))) : Prop :=
  (((decide ((1099511627776 : Int) < v6)) = true → VC27_k1 K (0 : Int) (1 : Int)) ∧ ((decide ((1099511627776 : Int) < v6)) = false → VC27_k1 K v6 (0 : Int)))

def VC27_k3 (g : (Int × (Int × (Int × (List (Int × LI)))))) (w : LI) (K : Int × Int → Prop) (n : Int) (l30300 : (List ((Int × (Int × (Int × Int))) × Int))) : Prop :=
  VC27_k2 K n (mset l30300 ((-1 : Int), ((g.1 + g.2.2.1), ((0 : Int), (w.length : Int)))) n)

def VC27_k4 (v58 : Int) (X1 : Int × Int × (List ((Int × (Int × (Int × Int))) × Int)) → Prop) (n2 : Int) (l40001 : (List ((Int × (Int × (Int × Int))) × Int))) : Prop :=
  (InR (v58 + (1 : Int)) ∧ X1 (n2, (v58 + (1 : Int)), l40001))

def VC27_l1 (g : (Int × (Int × (Int × (List (Int × LI)))))) (w : LI) (K : Int × Int → Prop) (n : Int) (v58 : Int) (l30300 : (List ((Int × (Int × (Int × Int))) × Int))) (X1 : Int × Int × (List ((Int × (Int × (Int × Int))) × Int)) → Prop) : Prop :=
  (((decide (v58 < (g.2.2.2.length : Int))) = true → (inIdx v58 g.2.2.2.length ∧ (InR ((g.1 + g.2.2.1) - g.1) ∧ (((decide ((g.2.2.2.getD (v58).toNat ((0 : Int), ([] : LI))).1 = ((g.1 + g.2.2.1) - g.1))) = true → VCcr100 g.1 g.2.1 g.2.2.1 g.2.2.2 w v58 (0 : Int) (0 : Int) (w.length : Int) l30300 (fun (ret77v : Int × (List ((Int × (Int × (Int × Int))) × Int))) => VC109 n ret77v.1 (fun (ret78v : Int) => VC27_k4 v58 X1 ret78v ret77v.2))) ∧ ((decide ((g.2.2.2.getD (v58).toNat ((0 : Int), ([] : LI))).1 = ((g.1 + g.2.2.1) - g.1))) = false → VC27_k4 v58 X1 n l30300))))) ∧ ((decide (v58 < (g.2.2.2.length : Int))) = false → VC27_k3 g w K n l30300))

def VC27 (g : (Int × (Int × (Int × (List (Int × LI)))))) (w : LI) (K : Int × Int → Prop) : Prop :=
  VC44 g w (fun (ret12v : Int) => (((!decide (ret12v = (0 : Int))) = true → VC27_k1 K (0 : Int) ret12v) ∧ ((!decide (ret12v = (0 : Int))) = false → VC84 g (fun (ret17v : Bool) => (((!ret17v) = true → VC27_k1 K (0 : Int) (3 : Int)) ∧ ((!ret17v) = false → (InR (g.1 + g.2.2.1) ∧ (((decide ((g.1 + g.2.2.1) < g.1)) = true → (InR ((0 : Int) + (1 : Int)) ∧ ((decide ((w.length : Int) = ((0 : Int) + (1 : Int)))) = true → inIdx (0 : Int) w.length) ∧ ((((decide ((w.length : Int) = ((0 : Int) + (1 : Int)))) && (decide ((w.getD ((0 : Int)).toNat (0 : Int)) = (g.1 + g.2.2.1)))) = true → VC27_k2 K (1 : Int) ([] : List ((Int × (Int × (Int × Int))) × Int))) ∧ (((decide ((w.length : Int) = ((0 : Int) + (1 : Int)))) && (decide ((w.getD ((0 : Int)).toNat (0 : Int)) = (g.1 + g.2.2.1)))) = false → VC27_k2 K (0 : Int) ([] : List ((Int × (Int × (Int × Int))) × Int)))))) ∧ ((decide ((g.1 + g.2.2.1) < g.1)) = false → (((mget ([] : List ((Int × (Int × (Int × Int))) × Int)) ((-1 : Int), ((g.1 + g.2.2.1), ((0 : Int), (w.length : Int))))).isSome = true → VC27_k2 K ((mget ([] : List ((Int × (Int × (Int × Int))) × Int)) ((-1 : Int), ((g.1 + g.2.2.1), ((0 : Int), (w.length : Int))))).getD (0 : Int)) ([] : List ((Int × (Int × (Int × Int))) × Int))) ∧ ((mget ([] : List ((Int × (Int × (Int × Int))) × Int)) ((-1 : Int), ((g.1 + g.2.2.1), ((0 : Int), (w.length : Int))))).isSome = false → Loop (σ := Int × Int × (List ((Int × (Int × (Int × Int))) × Int))) (fun s X => VC27_l1 g w K s.1 s.2.1 s.2.2 X) ((0 : Int), (0 : Int), ([] : List ((Int × (Int × (Int × Int))) × Int))))))))))))))

set_option maxHeartbeats 4000000 in
theorem link27 (g : (Int × (Int × (Int × (List (Int × LI)))))) (w : LI) (K : Int × Int → Prop) (h : VC27 g w K) : ACalls Try.prog 27 [toV1 (.pr (.int .i64) (.pr (.int .i64) (.pr (.int .i64) (.sl (.pr (.int .i64) (.sl (.int .i64))))))) g, toV1 (.sl (.int .i64)) w] (fun res => ∃ y, res = (fun y => [toV1 (.int .i64) y.1, toV1 (.int .i64) y.2]) y ∧ K y) := by
 refine acalls_of_aw [(.int .i64), (.int .i64)] [.t 4, .t 5] Try.func27 rfl rfl rfl ?_
 unfold VC27 at h
 refine sr ?_
 refine rq 3 (ob := (Ts 3 True)) (st' := (⟨18, [e27a16 w, sp 2 2], [e27a3 g]⟩ : St)) (by kernel_rfl) (tsI 3 trivial) ?_
 refine nsr ?_
 refine rq 2 (ob := (Ts 2 True)) (st' := (⟨18, [sA 10 [.pI g.1, .pI g.2.1, .pI g.2.2.1, .p (.sl (.pr (.int .i64) (.sl (.int .i64)))) g.2.2.2], s1 11 (.pS w)], []⟩ : St)) (by kernel_rfl) (tsI 2 trivial) ?_
 refine awl_inlr [.t 4, .t 5, .t 6] [] [.agg [.pI g.1, .pI g.2.1, .pI g.2.2.1, .p (.sl (.pr (.int .i64) (.sl (.int .i64)))) g.2.2.2], .c (.pS w)] [] rfl rfl (by kernel_rfl) rfl (by kernel_rfl) Try.call54 (by kernel_rfl) (by kernel_rfl) Try.func54 rfl rfl (by kernel_rfl) ?_
 refine aw_conv [] (st' := (⟨36, [sA 0 [.pI g.1, .pI g.2.1, .pI g.2.2.1, .p (.sl (.pr (.int .i64) (.sl (.int .i64)))) g.2.2.2], e27a16 w, sA 46 [.pI g.1, .pI g.2.1, .pI g.2.2.1, .p (.sl (.pr (.int .i64) (.sl (.int .i64)))) g.2.2.2], s1 47 (.pS w)], []⟩ : St)) (by kernel_rfl) ?_
 refine withJoinR (σ := Int × Int) (fun s => (⟨36, [s1 4 (.any), sI 5 s.1, sI 6 s.2], []⟩ : St)) (fun s => VC27_k1 K s.1 s.2) (fun s h => ?_) (fun rest1 => ?_)
 ·obtain ⟨v5, v6⟩ := s
  have h : VC27_k1 K v5 v6 := h
  unfold VC27_k1 at h
  refine inlR_n (ob := (True ∧ True ∧ True ∧ True)) (.tup [.c (.any), .c (.pI v5), .c (.pI v6)]) (by kernel_rfl) ⟨trivial, trivial, trivial, trivial⟩ rfl ?_
  refine lpr (st' := (⟨18, [(12, [], .tup [.c (.any), .c (.pI v5), .c (.pI v6)])], []⟩ : St)) (by kernel_rfl) ?_
  refine rq 7 (ob := (Ts 7 True)) (st' := (⟨18, [sI 7 v5, sI 8 v6], []⟩ : St)) (by kernel_rfl) (tsI 7 trivial) ?_
  refine nsr ?_
  refine rq 4 (ob := (Ts 4 True)) (st' := (⟨18, [sI 4 v5, sI 5 v6], []⟩ : St)) (by kernel_rfl) (tsI 4 trivial) ?_
  refine nn ?_
  refine aw_ret ?_
  exact retQ_r (ob := Ts 2 True) _ (by kernel_rfl) (tsI 2 trivial) h
 ·refine sr ?_
  refine rq 4 (ob := (Ts 4 True)) (st' := (⟨36, [e27a16 w, sp 2 2], [e27a3 g]⟩ : St)) (by kernel_rfl) (tsI 4 trivial) ?_
  refine nn ?_
  refine aw_seq ?_
  refine sr ?_
  refine rq 2 (ob := (Ts 2 True)) (st' := (⟨36, [e27a16 w, sp 2 2, sA 10 [.pI g.1, .pI g.2.1, .pI g.2.2.1, .p (.sl (.pr (.int .i64) (.sl (.int .i64)))) g.2.2.2], s1 11 (.pS w)], [e27a3 g]⟩ : St)) (by kernel_rfl) (tsI 2 trivial) ?_
  refine lcq (d := 12) [.d (.pr (.int .i64) (.pr (.int .i64) (.pr (.int .i64) (.sl (.pr (.int .i64) (.sl (.int .i64))))))), .d (.sl (.int .i64))] (fun ret12v => (⟨36, [e27a16 w, sp 2 2, sI 12 ret12v], [e27a3 g]⟩ : St)) (by kernel_rfl) Try.call44 (fun _ => by kernel_rfl) (link44 g w _ h) (fun ret12v h => ?_)
  refine rq 1 (ob := (Ts 1 True)) (st' := (⟨36, [e27a16 w, sp 2 2, sI 7 ret12v], [e27a3 g]⟩ : St)) (by kernel_rfl) (tsI 1 trivial) ?_
  refine nsr ?_
  refine rq 2 (ob := (Ts 2 True)) (st' := (⟨36, [e27a16 w, sp 2 2, sI 7 ret12v, sB 14 (!decide (ret12v = (0 : Int)))], [e27a3 g]⟩ : St)) (by kernel_rfl) (tsI 2 trivial) ?_
  refine nn ?_
  refine aw_cond (b := (!decide (ret12v = (0 : Int)))) (by kernel_rfl) (fun hb => ?_) (fun hb => ?_)
  ·have h := h.1 hb
   refine sr ?_
   refine rq 4 (ob := (Ts 4 True)) (st' := (⟨36, [s1 4 (.any), sI 5 (0 : Int), sI 6 ret12v], []⟩ : St)) (by kernel_rfl) (tsI 4 trivial) ?_
   refine nn ?_
   refine aw_ret ?_
   refine thenQ_r ?_
   exact rest1 ((0 : Int), ret12v) h
  ·have h := h.2 hb
   refine aw_skip ?_
   refine thenQ_n ?_
   refine aw_seq ?_
   refine sr ?_
   refine rq 1 (ob := (Ts 1 True)) (st' := (⟨36, [e27a16 w, sp 2 2, sA 16 [.pI g.1, .pI g.2.1, .pI g.2.2.1, .p (.sl (.pr (.int .i64) (.sl (.int .i64)))) g.2.2.2]], [e27a3 g]⟩ : St)) (by kernel_rfl) (tsI 1 trivial) ?_
   refine lcq (d := 17) [.d (.pr (.int .i64) (.pr (.int .i64) (.pr (.int .i64) (.sl (.pr (.int .i64) (.sl (.int .i64)))))))] (fun ret17v => (⟨36, [e27a16 w, sp 2 2, sB 17 ret17v], [e27a3 g]⟩ : St)) (by kernel_rfl) Try.call84 (fun _ => by kernel_rfl) (link84 g _ h) (fun ret17v h => ?_)
   refine rq 1 (ob := (Ts 1 True)) (st' := (⟨36, [e27a16 w, sp 2 2, sB 18 (!ret17v)], [e27a3 g]⟩ : St)) (by kernel_rfl) (tsI 1 trivial) ?_
   refine nn ?_
   refine aw_cond (b := (!ret17v)) (by kernel_rfl) (fun hb => ?_) (fun hb => ?_)
   ·have h := h.1 hb
    refine sr ?_
    refine rq 3 (ob := (Ts 3 True)) (st' := (⟨36, [s1 4 (.any), sI 5 (0 : Int), sI 6 (3 : Int)], []⟩ : St)) (by kernel_rfl) (tsI 3 trivial) ?_
    refine nn ?_
    refine aw_ret ?_
    refine thenQ_r ?_
    exact rest1 ((0 : Int), (3 : Int)) h
   ·have h := h.2 hb
    refine aw_skip ?_
    refine thenQ_n ?_
    refine sr ?_
    refine rq 2 (ob := (Ts 2 True)) (st' := (⟨36, [e27a16 w, sp 2 2, sA 19 [.pI g.1, .pI g.2.1, .pI g.2.2.1, .p (.sl (.pr (.int .i64) (.sl (.int .i64)))) g.2.2.2], s1 20 (.pS w)], [e27a3 g]⟩ : St)) (by kernel_rfl) (tsI 2 trivial) ?_
    refine awl_conv [.ren 2 30100] (st' := (⟨36, [e27a16 w, sp 2 30100, sA 19 [.pI g.1, .pI g.2.1, .pI g.2.2.1, .p (.sl (.pr (.int .i64) (.sl (.int .i64)))) g.2.2.2], s1 20 (.pS w)], [e27a8 g]⟩ : St)) (by kernel_rfl) ?_
    refine awl_inlr [.t 4] [30100] [.agg [.pI g.1, .pI g.2.1, .pI g.2.2.1, .p (.sl (.pr (.int .i64) (.sl (.int .i64)))) g.2.2.2], .c (.pS w)] [] rfl rfl (by kernel_rfl) rfl (by kernel_rfl) Try.call85 (by kernel_rfl) (by kernel_rfl) Try.func85 rfl rfl (by kernel_rfl) ?_
    refine aw_conv [] (st' := (⟨10, [sA 0 [.pI g.1, .pI g.2.1, .pI g.2.2.1, .p (.sl (.pr (.int .i64) (.sl (.int .i64)))) g.2.2.2], e27a16 w, s1 11 (.pS w), sp 12 30100, sA 29 [.pI g.1, .pI g.2.1, .pI g.2.2.1, .p (.sl (.pr (.int .i64) (.sl (.int .i64)))) g.2.2.2], s1 30 (.pS w)], [e27a8 g]⟩ : St)) (by kernel_rfl) ?_
    refine sr ?_
    refine rq 2 (ob := (Ts 2 True)) (st' := (⟨10, [e27a16 w, sp 2 2, s1 11 (.pS w), sp 12 30100], [e27a3 g, e27a8 g]⟩ : St)) (by kernel_rfl) (tsI 2 trivial) ?_
    refine nsr ?_
    refine rq 6 (ob := (Ts 6 True)) (st' := (⟨10, [sp 4 9, s1 11 (.pS w), sp 12 30100], [e27a12, e27a10 g w, e27a8 g]⟩ : St)) (by kernel_rfl) (tsI 6 trivial) ?_
    refine nn ?_
    refine aw_ret ?_
    refine inlR_r (ob := True) (.v (.c (.ptr 9 0))) (by kernel_rfl) trivial rfl ?_
    refine lpr (st' := (⟨36, [e27a16 w, sp 2 30100, sp 21 9], [e27a12, e27a10 g w, e27a8 g]⟩ : St)) (by kernel_rfl) ?_
    refine rq 1 (ob := (Ts 1 True)) (st' := (⟨36, [e27a16 w, sp 2 30100, sp 8 9], [e27a12, e27a10 g w, e27a8 g]⟩ : St)) (by kernel_rfl) (tsI 1 trivial) ?_
    refine nsr ?_
    obtain ⟨o1, h⟩ := h
    refine rq 9 (ob := (Ts 5 (InR (g.1 + g.2.2.1) ∧ Ts 3 True))) (st' := (⟨36, [sp 8 9, sp 22 9, sI 27 (g.1 + g.2.2.1), sA 30 [.pI (0 : Int), .pI (w.length : Int)]], [e27a12, e27a10 g w]⟩ : St)) (by kernel_rfl) (tsI 5 ⟨o1, tsI 3 trivial⟩) ?_
    refine awl_conv [.ren 7 30300, .ren 9 30301] (st' := (⟨36, [sp 8 30301, sp 22 30301, sI 27 (g.1 + g.2.2.1), sA 30 [.pI (0 : Int), .pI (w.length : Int)]], [e27a2, e27a0 g w]⟩ : St)) (by kernel_rfl) ?_
    refine awl_inlr [.t 6] [30300, 30301] [.c (.ptr 30301 0), .c (.pI (g.1 + g.2.2.1)), .agg [.pI (0 : Int), .pI (w.length : Int)]] [] rfl rfl (by kernel_rfl) rfl (by kernel_rfl) Try.call86 (by kernel_rfl) (by kernel_rfl) Try.func86 rfl rfl (by kernel_rfl) ?_
    refine aw_conv [] (st' := (⟨87, [e27a17, e27a9 g, sA 2 [.pI (0 : Int), .pI (w.length : Int)], e27a14, sp 109 30301, sI 114 (g.1 + g.2.2.1), sA 117 [.pI (0 : Int), .pI (w.length : Int)]], [e27a2, e27a0 g w]⟩ : St)) (by kernel_rfl) ?_
    refine withJoinR (σ := Int × (List ((Int × (Int × (Int × Int))) × Int))) (fun s => (⟨87, [sI 6 s.1, e27a14], [(30300, [], .dict (.pr (.int .i64) t3) (.int .i64) s.2), e27a0 g w]⟩ : St)) (fun s => VC27_k2 K s.1 s.2) (fun s h => ?_) (fun rest2 => ?_)
    ·obtain ⟨v6, l30300⟩ := s
     have h : VC27_k2 K v6 l30300 := h
     unfold VC27_k2 at h
     refine inlR_n (ob := True) (.v (.c (.pI v6))) (by kernel_rfl) trivial rfl ?_
     refine lpr (st' := (⟨36, [sp 8 30301, sI 31 v6], [e27a7 l30300, e27a0 g w]⟩ : St)) (by kernel_rfl) ?_
     refine rq 1 (ob := (Ts 1 True)) (st' := (⟨36, [sp 8 30301, sI 9 v6], [e27a7 l30300, e27a0 g w]⟩ : St)) (by kernel_rfl) (tsI 1 trivial) ?_
     refine nn ?_
     refine aw_seq ?_
     refine sr ?_
     refine rq 2 (ob := (Ts 2 True)) (st' := (⟨36, [sp 8 30301, sI 9 v6, sB 33 (decide ((1099511627776 : Int) < v6))], [e27a7 l30300, e27a0 g w]⟩ : St)) (by kernel_rfl) (tsI 2 trivial) ?_
     refine nn ?_
     refine aw_cond (b := (decide ((1099511627776 : Int) < v6))) (by kernel_rfl) (fun hb => ?_) (fun hb => ?_)
     ·have h := h.1 hb
      refine sr ?_
      refine rq 3 (ob := (Ts 3 True)) (st' := (⟨36, [s1 4 (.any), sI 5 (0 : Int), sI 6 (1 : Int)], []⟩ : St)) (by kernel_rfl) (tsI 3 trivial) ?_
      refine nn ?_
      refine aw_ret ?_
      refine thenQ_r ?_
      exact rest1 ((0 : Int), (1 : Int)) h
     ·have h := h.2 hb
      refine aw_skip ?_
      refine thenQ_n ?_
      refine sr ?_
      refine rq 5 (ob := (Ts 5 True)) (st' := (⟨36, [sp 4 30301, sI 5 v6, sI 6 (0 : Int)], [e27a7 l30300, e27a0 g w]⟩ : St)) (by kernel_rfl) (tsI 5 trivial) ?_
      refine nn ?_
      refine aw_conv [.prune [4, 5, 6] [], .anyS 4] (st' := (⟨36, [s1 4 (.any), sI 5 v6, sI 6 (0 : Int)], []⟩ : St)) (by kernel_rfl) ?_
      refine aw_ret ?_
      exact rest1 (v6, (0 : Int)) h
    ·refine sr ?_
     refine rq 2 (ob := (Ts 2 True)) (st' := (⟨87, [e27a17, e27a9 g, sp 5 5, e27a14], [e27a6 w, e27a2, e27a0 g w]⟩ : St)) (by kernel_rfl) (tsI 2 trivial) ?_
     refine nn ?_
     refine aw_seq ?_
     refine sr ?_
     refine rq 7 (ob := (Ts 7 True)) (st' := (⟨87, [e27a17, e27a9 g, sp 5 5, sB 19 (decide ((g.1 + g.2.2.1) < g.1)), e27a14], [e27a6 w, e27a2, e27a0 g w]⟩ : St)) (by kernel_rfl) (tsI 7 trivial) ?_
     refine nn ?_
     refine aw_cond (b := (decide ((g.1 + g.2.2.1) < g.1))) (by kernel_rfl) (fun hb => ?_) (fun hb => ?_)
     ·have h := h.1 hb
      refine aw_seq ?_
      refine aw_seq ?_
      refine awd_begin [] (by kernel_rfl) ?_
      obtain ⟨o1, o2, h⟩ := h
      refine drq (by kernel_rfl) [0, 1, 2, 3, 4, 5, 6, 7, 8, 9, 10, 11, 12, 13, 14, 15, 16, 17] (ob := (Ts 4 (InR ((0 : Int) + (1 : Int)) ∧ Ts 2 (Ti 6 ((decide ((w.length : Int) = ((0 : Int) + (1 : Int)))) = true → True) (((decide ((w.length : Int) = ((0 : Int) + (1 : Int)))) = true → inIdx (0 : Int) w.length) ∧ Ti 3 ((decide ((w.length : Int) = ((0 : Int) + (1 : Int)))) = true → True) (Ts 1 True)))))) (done' := [17, 16, 15, 14, 13, 12, 11, 10, 9, 8, 7, 6, 5, 4, 3, 2, 1, 0]) (st' := (⟨87, [sB 37 ((decide ((w.length : Int) = ((0 : Int) + (1 : Int)))) && (decide ((w.getD ((0 : Int)).toNat (0 : Int)) = (g.1 + g.2.2.1)))), e27a14], [e27a2, e27a0 g w]⟩ : St)) (by kernel_rfl) (tsI 4 (⟨o1, tsI 2 (tiI 6 (fun _ => trivial) ⟨o2, tiI 3 (fun _ => trivial) (tsI 1 trivial)⟩)⟩)) ?_
      refine awd_done (by kernel_rfl) ?_
      refine thenQ_n ?_
      refine aw_cond (b := ((decide ((w.length : Int) = ((0 : Int) + (1 : Int)))) && (decide ((w.getD ((0 : Int)).toNat (0 : Int)) = (g.1 + g.2.2.1))))) (by kernel_rfl) (fun hb => ?_) (fun hb => ?_)
      ·have h := h.1 hb
       refine sr ?_
       refine rq 1 (ob := (Ts 1 True)) (st' := (⟨87, [sI 6 (1 : Int), e27a14], [e27a2, e27a0 g w]⟩ : St)) (by kernel_rfl) (tsI 1 trivial) ?_
       refine nn ?_
       refine aw_ret ?_
       refine thenQ_r ?_
       refine thenQ_r ?_
       exact rest2 ((1 : Int), ([] : List ((Int × (Int × (Int × Int))) × Int))) h
      ·have h := h.2 hb
       refine aw_skip ?_
       refine thenQ_n ?_
       refine sr ?_
       refine rq 1 (ob := (Ts 1 True)) (st' := (⟨87, [sI 6 (0 : Int), e27a14], [e27a2, e27a0 g w]⟩ : St)) (by kernel_rfl) (tsI 1 trivial) ?_
       refine nn ?_
       refine aw_ret ?_
       refine thenQ_r ?_
       exact rest2 ((0 : Int), ([] : List ((Int × (Int × (Int × Int))) × Int))) h
     ·have h := h.2 hb
      refine aw_skip ?_
      refine thenQ_n ?_
      refine sr ?_
      refine rq 5 (ob := (Ts 5 True)) (st' := (⟨87, [e27a17, e27a9 g, sp 5 5, sp 7 7, e27a14], [e27a6 w, e27a1 g w, e27a2, e27a0 g w]⟩ : St)) (by kernel_rfl) (tsI 5 trivial) ?_
      refine nn ?_
      refine aw_seq ?_
      refine aw_seq ?_
      refine awd_begin [] (by kernel_rfl) ?_
      refine drq (by kernel_rfl) [0, 1, 2, 3, 4, 5, 6, 7, 8, 9, 10] (ob := (Ts 11 True)) (done' := [10, 9, 8, 7, 6, 5, 4, 3, 2, 1, 0]) (st' := (⟨87, [e27a17, e27a9 g, sp 5 5, sp 7 7, e27a13 g w, sB 9 ((mget ([] : List ((Int × (Int × (Int × Int))) × Int)) ((-1 : Int), ((g.1 + g.2.2.1), ((0 : Int), (w.length : Int))))).isSome), e27a14], [e27a6 w, e27a1 g w, e27a2, e27a0 g w]⟩ : St)) (by kernel_rfl) (tsI 11 trivial) ?_
      refine awd_done (by kernel_rfl) ?_
      refine thenQ_n ?_
      refine sr ?_
      refine rq 1 (ob := (Ts 1 True)) (st' := (⟨87, [e27a17, e27a9 g, sp 5 5, sp 7 7, e27a13 g w, sB 50 ((mget ([] : List ((Int × (Int × (Int × Int))) × Int)) ((-1 : Int), ((g.1 + g.2.2.1), ((0 : Int), (w.length : Int))))).isSome), e27a14], [e27a6 w, e27a1 g w, e27a2, e27a0 g w]⟩ : St)) (by kernel_rfl) (tsI 1 trivial) ?_
      refine nn ?_
      refine aw_cond (b := (mget ([] : List ((Int × (Int × (Int × Int))) × Int)) ((-1 : Int), ((g.1 + g.2.2.1), ((0 : Int), (w.length : Int))))).isSome) (by kernel_rfl) (fun hb => ?_) (fun hb => ?_)
      ·have h := h.1 hb
       refine sr ?_
       refine rq 2 (ob := (Ts 2 True)) (st' := (⟨87, [sI 6 ((mget ([] : List ((Int × (Int × (Int × Int))) × Int)) ((-1 : Int), ((g.1 + g.2.2.1), ((0 : Int), (w.length : Int))))).getD (0 : Int)), e27a14], [e27a2, e27a0 g w]⟩ : St)) (by kernel_rfl) (tsI 2 trivial) ?_
       refine nn ?_
       refine aw_ret ?_
       refine thenQ_r ?_
       exact rest2 (((mget ([] : List ((Int × (Int × (Int × Int))) × Int)) ((-1 : Int), ((g.1 + g.2.2.1), ((0 : Int), (w.length : Int))))).getD (0 : Int)), ([] : List ((Int × (Int × (Int × Int))) × Int))) h
      ·have h := h.2 hb
       refine aw_skip ?_
       refine thenQ_n ?_
       refine sr ?_
       refine rq 1 (ob := (Ts 1 True)) (st' := (⟨87, [e27a17, e27a9 g, sp 5 5, sp 7 7, sI 10 (0 : Int), e27a14], [e27a6 w, e27a1 g w, e27a2, e27a0 g w]⟩ : St)) (by kernel_rfl) (tsI 1 trivial) ?_
       refine nn ?_
       refine aw_seq ?_
       refine sr ?_
       refine rq 7 (ob := (Ts 7 True)) (st' := (⟨87, [e27a17, e27a9 g, sp 5 5, sp 7 7, sI 10 (0 : Int), e27a5 g, e27a11 g, sI 58 (0 : Int), e27a14], [e27a6 w, e27a1 g w, e27a2, e27a0 g w]⟩ : St)) (by kernel_rfl) (tsI 7 trivial) ?_
       refine nn ?_
       refine withJoin (σ := Int × (List ((Int × (Int × (Int × Int))) × Int))) (fun s => (⟨87, [e27a17, sp 7 7, sI 10 s.1, e27a14], [e27a1 g w, (30300, [], .dict (.pr (.int .i64) t3) (.int .i64) s.2), e27a0 g w]⟩ : St)) (fun s => VC27_k3 g w K s.1 s.2) (fun s h => ?_) (fun rest3 => ?_)
       ·obtain ⟨n, l30300⟩ := s
        have h : VC27_k3 g w K n l30300 := h
        unfold VC27_k3 at h
        refine thenQ_n ?_
        refine aw_seq ?_
        refine awd_begin [30300] (by kernel_rfl) ?_
        refine drq (by kernel_rfl) [0, 1, 2, 3, 4, 5] (ob := (Ts 6 True)) (done' := [5, 4, 3, 2, 1, 0]) (st' := (⟨87, [sI 10 n, s1 83 (.own 30300), sA 84 [.pI (-1 : Int), .pI (g.1 + g.2.2.1), .pI (0 : Int), .pI (w.length : Int)], sI 85 n, e27a14], [e27a7 l30300, e27a0 g w]⟩ : St)) (by kernel_rfl) (tsI 6 trivial) ?_
        refine awd_one (i := 6) (by kernel_rfl) ?_
        refine dsq (ob := True) (st' := (⟨87, [sI 10 n, e27a14], [(30300, [], .dict (.pr (.int .i64) t3) (.int .i64) (mset l30300 ((-1 : Int), ((g.1 + g.2.2.1), ((0 : Int), (w.length : Int)))) n)), e27a0 g w]⟩ : St)) rfl (by kernel_rfl) trivial ?_
        refine awd_done (by kernel_rfl) ?_
        refine thenQ_n ?_
        refine sr ?_
        refine rq 2 (ob := (Ts 2 True)) (st' := (⟨87, [sI 6 n, e27a14], [(30300, [], .dict (.pr (.int .i64) t3) (.int .i64) (mset l30300 ((-1 : Int), ((g.1 + g.2.2.1), ((0 : Int), (w.length : Int)))) n)), e27a0 g w]⟩ : St)) (by kernel_rfl) (tsI 2 trivial) ?_
        refine nn ?_
        refine aw_ret ?_
        exact rest2 (n, (mset l30300 ((-1 : Int), ((g.1 + g.2.2.1), ((0 : Int), (w.length : Int)))) n)) h
       ·refine aw_block ?_
        refine aw_loop (σ := Int × Int × (List ((Int × (Int × (Int × Int))) × Int))) (fun s => (⟨87, [e27a17, e27a9 g, sp 5 5, sp 7 7, sI 10 s.1, e27a5 g, e27a11 g, sI 58 s.2.1, e27a14], [e27a6 w, e27a1 g w, (30300, [], .dict (.pr (.int .i64) t3) (.int .i64) s.2.2), e27a0 g w]⟩ : St)) (fun s X => VC27_l1 g w K s.1 s.2.1 s.2.2 X) (s0 := ((0 : Int), (0 : Int), ([] : List ((Int × (Int × (Int × Int))) × Int)))) (fun s X1 h => ?_) h
        obtain ⟨n, v58, l30300⟩ := s
        have h : VC27_l1 g w K n v58 l30300 X1 := h
        unfold VC27_l1 at h
        refine sr ?_
        refine rq 1 (ob := (Ts 1 True)) (st' := (⟨87, [e27a17, e27a9 g, sp 5 5, sp 7 7, sI 10 n, e27a5 g, e27a11 g, sI 58 v58, sB 59 (decide (v58 < (g.2.2.2.length : Int))), e27a14], [e27a6 w, e27a1 g w, e27a7 l30300, e27a0 g w]⟩ : St)) (by kernel_rfl) (tsI 1 trivial) ?_
        refine nn ?_
        refine aw_seq ?_
        refine aw_cond (b := (decide (v58 < (g.2.2.2.length : Int)))) (by kernel_rfl) (fun hb => ?_) (fun hb => ?_)
        ·have h := h.1 hb
         refine aw_skip ?_
         refine thenQ_n ?_
         refine aw_seq ?_
         refine aw_block ?_
         refine sr ?_
         obtain ⟨o1, h⟩ := h
         refine rq 6 (ob := (Ts 1 (inIdx v58 g.2.2.2.length ∧ Ts 4 True))) (st' := (⟨87, [e27a17, e27a9 g, sp 5 5, sp 7 7, sI 10 n, sI 11 v58, sp 12 12, e27a5 g, e27a11 g, sI 58 v58, e27a14], [e27a6 w, e27a1 g w, hB 12 [.pI ((g.2.2.2.getD (v58).toNat ((0 : Int), ([] : LI))).1), .pS ((g.2.2.2.getD (v58).toNat ((0 : Int), ([] : LI))).2)], e27a7 l30300, e27a0 g w]⟩ : St)) (by kernel_rfl) (tsI 1 ⟨o1, tsI 4 trivial⟩) ?_
         refine nn ?_
         refine aw_seq ?_
         refine awd_begin [] (by kernel_rfl) ?_
         obtain ⟨o1, h⟩ := h
         refine drq (by kernel_rfl) [0, 1, 2, 3, 4, 5, 6, 7, 8, 9] (ob := (Ts 8 (InR ((g.1 + g.2.2.1) - g.1) ∧ Ts 1 True))) (done' := [9, 8, 7, 6, 5, 4, 3, 2, 1, 0]) (st' := (⟨87, [e27a17, e27a9 g, sp 5 5, sp 7 7, sI 10 n, sI 11 v58, e27a5 g, e27a11 g, sI 58 v58, sB 72 (decide ((g.2.2.2.getD (v58).toNat ((0 : Int), ([] : LI))).1 = ((g.1 + g.2.2.1) - g.1))), e27a14], [e27a6 w, e27a1 g w, e27a7 l30300, e27a0 g w]⟩ : St)) (by kernel_rfl) (tsI 8 ⟨o1, tsI 1 trivial⟩) ?_
         refine awd_done (by kernel_rfl) ?_
         refine thenQ_n ?_
         refine withJoin (σ := Int × (List ((Int × (Int × (Int × Int))) × Int))) (fun s => (⟨87, [sp 0 40000, e27a9 g, sp 5 5, sp 7 7, sI 10 s.1, e27a5 g, e27a11 g, sI 58 v58, sp 95 40000], [e27a6 w, e27a1 g w, e27a4 g w, (40001, [], .dict (.pr (.int .i64) t3) (.int .i64) s.2)]⟩ : St)) (fun s => VC27_k4 v58 X1 s.1 s.2) (fun s h => ?_) (fun rest4 => ?_)
         ·obtain ⟨n2, l40001⟩ := s
          have h : VC27_k4 v58 X1 n2 l40001 := h
          unfold VC27_k4 at h
          refine blockQ_n ?_
          refine thenQ_n ?_
          refine aw_region ?_
          obtain ⟨o1, h⟩ := h
          refine rq 2 (ob := (InR (v58 + (1 : Int)) ∧ Ts 1 True)) (st' := (⟨87, [sp 0 40000, e27a9 g, sp 5 5, sp 7 7, sI 10 n2, e27a5 g, e27a11 g, sI 58 (v58 + (1 : Int)), sp 95 40000], [e27a6 w, e27a1 g w, e27a4 g w, (40001, [], .dict (.pr (.int .i64) t3) (.int .i64) l40001)]⟩ : St)) (by kernel_rfl) (⟨o1, tsI 1 trivial⟩) ?_
          refine awl_conv [.ren 40000 60000, .ren 40001 60001, .ren 60000 30301, .ren 60001 30300, .prune [0, 1, 5, 7, 10, 56, 57, 58, 95] [5, 7, 30300, 30301]] (st' := (⟨87, [e27a17, e27a9 g, sp 5 5, sp 7 7, sI 10 n2, e27a5 g, e27a11 g, sI 58 (v58 + (1 : Int)), e27a14], [e27a6 w, e27a1 g w, (30300, [], .dict (.pr (.int .i64) t3) (.int .i64) l40001), e27a0 g w]⟩ : St)) (by kernel_rfl) ?_
          refine awl_nil ?_
          exact thenQ_n ⟨(n2, (v58 + (1 : Int)), l40001), rfl, h⟩
         ·refine aw_cond (b := (decide ((g.2.2.2.getD (v58).toNat ((0 : Int), ([] : LI))).1 = ((g.1 + g.2.2.1) - g.1)))) (by kernel_rfl) (fun hb => ?_) (fun hb => ?_)
          ·have h := h.1 hb
           refine aw_region ?_
           refine rq 4 (ob := (Ts 4 True)) (st' := (⟨87, [e27a17, e27a9 g, sp 5 5, sp 7 7, e27a5 g, e27a11 g, sI 58 v58, sI 73 n, sp 74 30301, sI 75 v58, e27a18 w, e27a14], [e27a6 w, e27a1 g w, e27a7 l30300, e27a0 g w]⟩ : St)) (by kernel_rfl) (tsI 4 trivial) ?_
           refine awl_conv [.ren 30301 40000, .ren 30300 40001] (st' := (⟨87, [sp 0 40000, e27a9 g, sp 5 5, sp 7 7, e27a5 g, e27a11 g, sI 58 v58, sI 73 n, sp 74 40000, sI 75 v58, e27a18 w, sp 95 40000], [e27a6 w, e27a1 g w, (40001, [], .dict (.pr (.int .i64) t3) (.int .i64) l30300), e27a4 g w]⟩ : St)) (by kernel_rfl) ?_
           refine awl_lcall (σ := Int × (List ((Int × (Int × (Int × Int))) × Int))) [40000, 40001] [40000] [.c (.ptr 40000 0), .c (.pI v58), .c (.pI (0 : Int)), .agg [.pI (0 : Int), .pI (w.length : Int)]] [] (fun ret77v => .v (.c (.pI ret77v.1))) (fun ret77v => [hB 40000 [.pI g.1, .pI g.2.1, .pI g.2.2.1, .p (.sl (.pr (.int .i64) (.sl (.int .i64)))) g.2.2.2, .pS w, .own 40001], (40001, [], .dict (.pr (.int .i64) t3) (.int .i64) ret77v.2)]) (fun (ret77v : Int × (List ((Int × (Int × (Int × Int))) × Int))) => VC109 n ret77v.1 (fun (ret78v : Int) => VC27_k4 v58 X1 ret78v ret77v.2)) [hB 40000 [.pI g.1, .pI g.2.1, .pI g.2.2.1, .p (.sl (.pr (.int .i64) (.sl (.int .i64)))) g.2.2.2, .pS w, .own 40001], (40001, [], .dict (.pr (.int .i64) t3) (.int .i64) l30300)] (fun ret77v => (⟨87, [sI 77 ret77v.1, sp 0 40000, e27a9 g, sp 5 5, sp 7 7, e27a5 g, e27a11 g, sI 58 v58, sI 73 n, sp 74 40000, sI 75 v58, e27a18 w, sp 95 40000], [e27a4 g w, e27a15 ret77v, e27a6 w, e27a1 g w]⟩ : St)) rfl rfl (by kernel_rfl) rfl (by kernel_rfl) Try.call100 (by kernel_rfl) (by kernel_rfl) (by kernel_rfl) (fun _ _ => rfl) (fun _ => by kernel_rfl) (linkcr100 g.1 g.2.1 g.2.2.1 g.2.2.2 w v58 (0 : Int) (0 : Int) (w.length : Int) l30300 _ h) (fun ret77v h => ?_)
           refine lpr (st' := (⟨87, [sp 0 40000, e27a9 g, sp 5 5, sp 7 7, e27a5 g, e27a11 g, sI 58 v58, sI 73 n, sI 77 ret77v.1, sp 95 40000], [e27a6 w, e27a1 g w, e27a4 g w, e27a15 ret77v]⟩ : St)) (by kernel_rfl) ?_
           refine lcq (d := 78) [.d (.int .i64), .d (.int .i64)] (fun ret78v => (⟨87, [sp 0 40000, e27a9 g, sp 5 5, sp 7 7, e27a5 g, e27a11 g, sI 58 v58, sI 78 ret78v, sp 95 40000], [e27a6 w, e27a1 g w, e27a4 g w, e27a15 ret77v]⟩ : St)) (by kernel_rfl) Try.call109 (fun _ => by kernel_rfl) (link109 n ret77v.1 _ h) (fun ret78v h => ?_)
           refine rq 1 (ob := (Ts 1 True)) (st' := (⟨87, [sp 0 40000, e27a9 g, sp 5 5, sp 7 7, sI 10 ret78v, e27a5 g, e27a11 g, sI 58 v58, sp 95 40000], [e27a6 w, e27a1 g w, e27a4 g w, e27a15 ret77v]⟩ : St)) (by kernel_rfl) (tsI 1 trivial) ?_
           refine awl_nil ?_
           exact rest4 (ret78v, ret77v.2) h
          ·have h := h.2 hb
           refine aw_conv [.prune [0, 1, 5, 7, 10, 56, 57, 58, 95] [5, 7, 30300, 30301], .ren 30301 50301, .ren 30300 50300, .ren 50301 40000, .ren 50300 40001, .prune [0, 1, 5, 7, 10, 56, 57, 58, 95] [5, 7, 40000, 40001]] (st' := (⟨87, [sp 0 40000, e27a9 g, sp 5 5, sp 7 7, sI 10 n, e27a5 g, e27a11 g, sI 58 v58, sp 95 40000], [e27a6 w, e27a1 g w, e27a4 g w, (40001, [], .dict (.pr (.int .i64) t3) (.int .i64) l30300)]⟩ : St)) (by kernel_rfl) ?_
           refine aw_skip ?_
           exact rest4 (n, l30300) h
        ·have h := h.2 hb
         refine cpr (st' := (⟨87, [e27a17, sp 7 7, sI 10 n, e27a14], [e27a1 g w, e27a7 l30300, e27a0 g w]⟩ : St)) (by kernel_rfl) ?_
         refine aw_exit ?_
         refine thenQ_x ?_
         refine thenQ_x ?_
         refine blockQ_hit ?_
         exact rest3 (n, l30300) h

abbrev e43_0 (g : (Int × (Int × (Int × (List (Int × LI)))))) : Nat × Path × Con := hB 2 [.pI g.1, .pI g.2.1, .pI g.2.2.1, .p (.sl (.pr (.int .i64) (.sl (.int .i64)))) g.2.2.2]
abbrev e43_1 (l : LI) : Nat × Path × AV := sI 8 (l.length : Int)
-- coppicer/coppicerref.Signs
def VC43_k1 (K : Bool → Prop) : Prop :=
  K true

def VC43_l1 (g : (Int × (Int × (Int × (List (Int × LI)))))) (l : LI) (K : Bool → Prop) (v9 : Int) (X1 : Int → Prop) : Prop :=
  (((decide (v9 < (l.length : Int))) = true → (inIdx v9 l.length ∧ (((decide ((l.getD (v9).toNat (0 : Int)) < (0 : Int))) = false → InR (g.1 + g.2.1)) ∧ ((((decide ((l.getD (v9).toNat (0 : Int)) < (0 : Int))) || (decide ((g.1 + g.2.1) ≤ (l.getD (v9).toNat (0 : Int))))) = true → K false) ∧ (((decide ((l.getD (v9).toNat (0 : Int)) < (0 : Int))) || (decide ((g.1 + g.2.1) ≤ (l.getD (v9).toNat (0 : Int))))) = false → (InR (v9 + (1 : Int)) ∧ X1 (v9 + (1 : Int)))))))) ∧ ((decide (v9 < (l.length : Int))) = false → VC43_k1 K))

def VC43 (g : (Int × (Int × (Int × (List (Int × LI)))))) (l : LI) (K : Bool → Prop) : Prop :=
  Loop (σ := Int) (fun s X => VC43_l1 g l K s X) (0 : Int)

set_option maxHeartbeats 4000000 in
theorem link43 (g : (Int × (Int × (Int × (List (Int × LI)))))) (l : LI) (K : Bool → Prop) (h : VC43 g l K) : ACalls Try.prog 43 [toV1 (.pr (.int .i64) (.pr (.int .i64) (.pr (.int .i64) (.sl (.pr (.int .i64) (.sl (.int .i64))))))) g, toV1 (.sl (.int .i64)) l] (fun res => ∃ y, res = (fun y => [toV1 .bool y]) y ∧ K y) := by
 refine acalls_of_aw [.bool] [.t 4] Try.func43 rfl rfl rfl ?_
 unfold VC43 at h
 refine sr ?_
 refine rq 2 (ob := (Ts 2 True)) (st' := (⟨25, [s1 1 (.pS l), sp 2 2], [e43_0 g]⟩ : St)) (by kernel_rfl) (tsI 2 trivial) ?_
 refine nn ?_
 refine aw_seq ?_
 refine sr ?_
 refine rq 3 (ob := (Ts 3 True)) (st' := (⟨25, [sp 2 2, s1 7 (.pS l), e43_1 l, sI 9 (0 : Int)], [e43_0 g]⟩ : St)) (by kernel_rfl) (tsI 3 trivial) ?_
 refine nn ?_
 refine withJoin (σ := Unit) (fun s => (⟨25, [], []⟩ : St)) (fun s => VC43_k1 K) (fun s h => ?_) (fun rest1 => ?_)
 ·have h : VC43_k1 K := h
  unfold VC43_k1 at h
  refine thenQ_n ?_
  refine sr ?_
  refine rq 1 (ob := (Ts 1 True)) (st' := (⟨25, [sB 4 true], []⟩ : St)) (by kernel_rfl) (tsI 1 trivial) ?_
  refine nn ?_
  refine aw_ret ?_
  exact retQ_r (ob := Ts 1 True) _ (by kernel_rfl) (tsI 1 trivial) h
 ·refine aw_block ?_
  refine aw_loop (σ := Int) (fun s => (⟨25, [sp 2 2, s1 7 (.pS l), e43_1 l, sI 9 s], [e43_0 g]⟩ : St)) (fun s X => VC43_l1 g l K s X) (s0 := (0 : Int)) (fun v9 X1 h => ?_) h
  have h : VC43_l1 g l K v9 X1 := h
  unfold VC43_l1 at h
  refine sr ?_
  refine rq 1 (ob := (Ts 1 True)) (st' := (⟨25, [sp 2 2, s1 7 (.pS l), e43_1 l, sI 9 v9, sB 10 (decide (v9 < (l.length : Int)))], [e43_0 g]⟩ : St)) (by kernel_rfl) (tsI 1 trivial) ?_
  refine nn ?_
  refine aw_seq ?_
  refine aw_cond (b := (decide (v9 < (l.length : Int)))) (by kernel_rfl) (fun hb => ?_) (fun hb => ?_)
  ·have h := h.1 hb
   refine aw_skip ?_
   refine thenQ_n ?_
   refine aw_seq ?_
   refine aw_block ?_
   refine sr ?_
   obtain ⟨o1, h⟩ := h
   refine rq 3 (ob := (inIdx v9 l.length ∧ Ts 2 True)) (st' := (⟨25, [sp 2 2, sI 6 (l.getD (v9).toNat (0 : Int)), s1 7 (.pS l), e43_1 l, sI 9 v9], [e43_0 g]⟩ : St)) (by kernel_rfl) (⟨o1, tsI 2 trivial⟩) ?_
   refine nsr ?_
   obtain ⟨o1, h⟩ := h
   refine rq 11 (ob := (Ts 3 (Ti 5 ((decide ((l.getD (v9).toNat (0 : Int)) < (0 : Int))) = false → True) (((decide ((l.getD (v9).toNat (0 : Int)) < (0 : Int))) = false → InR (g.1 + g.2.1)) ∧ ((decide ((l.getD (v9).toNat (0 : Int)) < (0 : Int))) = false → True) ∧ Ts 1 True)))) (st' := (⟨25, [sp 2 2, s1 7 (.pS l), e43_1 l, sI 9 v9, sB 23 ((decide ((l.getD (v9).toNat (0 : Int)) < (0 : Int))) || (decide ((g.1 + g.2.1) ≤ (l.getD (v9).toNat (0 : Int)))))], [e43_0 g]⟩ : St)) (by kernel_rfl) (tsI 3 (tiI 5 (fun _ => trivial) (⟨o1, ⟨(fun _ => trivial), tsI 1 trivial⟩⟩))) ?_
   refine nn ?_
   refine aw_cond (b := ((decide ((l.getD (v9).toNat (0 : Int)) < (0 : Int))) || (decide ((g.1 + g.2.1) ≤ (l.getD (v9).toNat (0 : Int)))))) (by kernel_rfl) (fun hb => ?_) (fun hb => ?_)
   ·have h := h.1 hb
    refine sr ?_
    refine rq 1 (ob := (Ts 1 True)) (st' := (⟨25, [sB 4 false], []⟩ : St)) (by kernel_rfl) (tsI 1 trivial) ?_
    refine nn ?_
    refine aw_ret ?_
    refine blockQ_r ?_
    refine thenQ_r ?_
    refine thenQ_r ?_
    refine blockQ_r ?_
    refine thenQ_r ?_
    exact retQ_r (ob := Ts 1 True) _ (by kernel_rfl) (tsI 1 trivial) h
   ·have h := h.2 hb
    refine aw_skip ?_
    refine blockQ_n ?_
    refine thenQ_n ?_
    refine aw_region ?_
    obtain ⟨o1, h⟩ := h
    refine rq 2 (ob := (InR (v9 + (1 : Int)) ∧ Ts 1 True)) (st' := (⟨25, [sp 2 2, s1 7 (.pS l), e43_1 l, sI 9 (v9 + (1 : Int))], [e43_0 g]⟩ : St)) (by kernel_rfl) (⟨o1, tsI 1 trivial⟩) ?_
    refine awl_nil ?_
    exact thenQ_n ⟨(v9 + (1 : Int)), rfl, h⟩
  ·have h := h.2 hb
   refine cpr (st' := (⟨25, [], []⟩ : St)) (by kernel_rfl) ?_
   refine aw_exit ?_
   refine thenQ_x ?_
   refine thenQ_x ?_
   refine blockQ_hit ?_
   exact rest1 () h

abbrev e18_0 (g : (Int × (Int × (Int × (List (Int × LI)))))) : Nat × Path × Con := hB 1 [.pI g.1, .pI g.2.1, .pI g.2.2.1, .p (.sl (.pr (.int .i64) (.sl (.int .i64)))) g.2.2.2]
abbrev e18_1 (g : (Int × (Int × (Int × (List (Int × LI)))))) : Nat × Path × AV := s1 54 (.p (.sl (.pr (.int .i64) (.sl (.int .i64)))) g.2.2.2)
abbrev e18_2 (g : (Int × (Int × (Int × (List (Int × LI)))))) : Nat × Path × AV := s1 32 (.p (.sl (.pr (.int .i64) (.sl (.int .i64)))) g.2.2.2)
abbrev e18_3 (g : (Int × (Int × (Int × (List (Int × LI)))))) (v56 : Int) : Nat × Path × AV := sB 70 ((decide ((g.2.2.2.getD (v56).toNat ((0 : Int), ([] : LI))).1 < (0 : Int))) || (decide (g.2.1 ≤ (g.2.2.2.getD (v56).toNat ((0 : Int), ([] : LI))).1)))
abbrev e18_4 (g : (Int × (Int × (Int × (List (Int × LI)))))) : Nat × Path × AV := sI 55 (g.2.2.2.length : Int)
abbrev e18_5 (g : (Int × (Int × (Int × (List (Int × LI)))))) : Nat × Path × AV := sI 33 (g.2.2.2.length : Int)
-- coppicer/coppicerref.GrammarCheck
def VC18_k2 (K : Int → Prop) : Prop :=
  K (0 : Int)

def VC18_l1 (g : (Int × (Int × (Int × (List (Int × LI)))))) (K : Int → Prop) (v56 : Int) (X1 : Int → Prop) : Prop :=
  (((decide (v56 < (g.2.2.2.length : Int))) = true → (inIdx v56 g.2.2.2.length ∧ gcall (α := Bool) (!((decide ((g.2.2.2.getD (v56).toNat ((0 : Int), ([] : LI))).1 < (0 : Int))) || (decide (g.2.1 ≤ (g.2.2.2.getD (v56).toNat ((0 : Int), ([] : LI))).1)))) (VC43 g ((g.2.2.2.getD (v56).toNat ((0 : Int), ([] : LI))).2)) false (fun (ret74v : Bool) => (((((decide ((g.2.2.2.getD (v56).toNat ((0 : Int), ([] : LI))).1 < (0 : Int))) || (decide (g.2.1 ≤ (g.2.2.2.getD (v56).toNat ((0 : Int), ([] : LI))).1))) || (!ret74v)) = true → K (2 : Int)) ∧ ((((decide ((g.2.2.2.getD (v56).toNat ((0 : Int), ([] : LI))).1 < (0 : Int))) || (decide (g.2.1 ≤ (g.2.2.2.getD (v56).toNat ((0 : Int), ([] : LI))).1))) || (!ret74v)) = false → (InR (v56 + (1 : Int)) ∧ X1 (v56 + (1 : Int)))))))) ∧ ((decide (v56 < (g.2.2.2.length : Int))) = false → VC18_k2 K))

def VC18_k1 (g : (Int × (Int × (Int × (List (Int × LI)))))) (K : Int → Prop) : Prop :=
  ((((decide (g.2.2.1 < (0 : Int))) || (decide (g.2.1 ≤ g.2.2.1))) = true → K (2 : Int)) ∧ (((decide (g.2.2.1 < (0 : Int))) || (decide (g.2.1 ≤ g.2.2.1))) = false → Loop (σ := Int) (fun s X => VC18_l1 g K s X) (0 : Int)))

def VC18_l2 (g : (Int × (Int × (Int × (List (Int × LI)))))) (K : Int → Prop) (v34 : Int) (X2 : Int → Prop) : Prop :=
  (((decide (v34 < (g.2.2.2.length : Int))) = true → (inIdx v34 g.2.2.2.length ∧ (((decide ((4 : Int) < (((g.2.2.2.getD (v34).toNat ((0 : Int), ([] : LI))).2).length : Int))) = true → K (1 : Int)) ∧ ((decide ((4 : Int) < (((g.2.2.2.getD (v34).toNat ((0 : Int), ([] : LI))).2).length : Int))) = false → (InR (v34 + (1 : Int)) ∧ X2 (v34 + (1 : Int))))))) ∧ ((decide (v34 < (g.2.2.2.length : Int))) = false → VC18_k1 g K))

def VC18 (g : (Int × (Int × (Int × (List (Int × LI)))))) (K : Int → Prop) : Prop :=
  (((((((decide (g.1 < (1 : Int))) || (decide ((3 : Int) < g.1))) || (decide (g.2.1 < (1 : Int)))) || (decide ((5 : Int) < g.2.1))) || (decide ((10 : Int) < (g.2.2.2.length : Int)))) = true → K (1 : Int)) ∧ ((((((decide (g.1 < (1 : Int))) || (decide ((3 : Int) < g.1))) || (decide (g.2.1 < (1 : Int)))) || (decide ((5 : Int) < g.2.1))) || (decide ((10 : Int) < (g.2.2.2.length : Int)))) = false → Loop (σ := Int) (fun s X => VC18_l2 g K s X) (0 : Int)))

set_option maxHeartbeats 4000000 in
theorem link18 (g : (Int × (Int × (Int × (List (Int × LI)))))) (K : Int → Prop) (h : VC18 g K) : ACalls Try.prog 18 [toV1 (.pr (.int .i64) (.pr (.int .i64) (.pr (.int .i64) (.sl (.pr (.int .i64) (.sl (.int .i64))))))) g] (fun res => ∃ y, res = (fun y => [toV1 (.int .i64) y]) y ∧ K y) := by
 refine acalls_of_aw [(.int .i64)] [.t 2] Try.func18 rfl rfl rfl ?_
 unfold VC18 at h
 refine sr ?_
 refine rq 2 (ob := (Ts 2 True)) (st' := (⟨78, [sp 1 1], [e18_0 g]⟩ : St)) (by kernel_rfl) (tsI 2 trivial) ?_
 refine nn ?_
 refine aw_seq ?_
 refine sr ?_
 refine rq 24 (ob := (Ts 4 (Ti 3 ((decide (g.1 < (1 : Int))) = false → True) (Ts 2 (Ti 3 (((decide (g.1 < (1 : Int))) || (decide ((3 : Int) < g.1))) = false → True) (Ts 2 (Ti 3 ((((decide (g.1 < (1 : Int))) || (decide ((3 : Int) < g.1))) || (decide (g.2.1 < (1 : Int)))) = false → True) (Ts 2 (Ti 4 (((((decide (g.1 < (1 : Int))) || (decide ((3 : Int) < g.1))) || (decide (g.2.1 < (1 : Int)))) || (decide ((5 : Int) < g.2.1))) = false → True) (Ts 1 True)))))))))) (st' := (⟨78, [sp 1 1, sB 30 (((((decide (g.1 < (1 : Int))) || (decide ((3 : Int) < g.1))) || (decide (g.2.1 < (1 : Int)))) || (decide ((5 : Int) < g.2.1))) || (decide ((10 : Int) < (g.2.2.2.length : Int))))], [e18_0 g]⟩ : St)) (by kernel_rfl) (tsI 4 (tiI 3 (fun _ => trivial) (tsI 2 (tiI 3 (fun _ => trivial) (tsI 2 (tiI 3 (fun _ => trivial) (tsI 2 (tiI 4 (fun _ => trivial) (tsI 1 trivial))))))))) ?_
 refine nn ?_
 refine aw_cond (b := (((((decide (g.1 < (1 : Int))) || (decide ((3 : Int) < g.1))) || (decide (g.2.1 < (1 : Int)))) || (decide ((5 : Int) < g.2.1))) || (decide ((10 : Int) < (g.2.2.2.length : Int))))) (by kernel_rfl) (fun hb => ?_) (fun hb => ?_)
 ·have h := h.1 hb
  refine sr ?_
  refine rq 1 (ob := (Ts 1 True)) (st' := (⟨78, [sI 2 (1 : Int)], []⟩ : St)) (by kernel_rfl) (tsI 1 trivial) ?_
  refine nn ?_
  refine aw_ret ?_
  refine thenQ_r ?_
  exact retQ_r (ob := Ts 1 True) _ (by kernel_rfl) (tsI 1 trivial) h
 ·have h := h.2 hb
  refine aw_skip ?_
  refine thenQ_n ?_
  refine aw_seq ?_
  refine sr ?_
  refine rq 4 (ob := (Ts 4 True)) (st' := (⟨78, [sp 1 1, e18_2 g, e18_5 g, sI 34 (0 : Int)], [e18_0 g]⟩ : St)) (by kernel_rfl) (tsI 4 trivial) ?_
  refine nn ?_
  refine withJoin (σ := Unit) (fun s => (⟨78, [sp 1 1], [e18_0 g]⟩ : St)) (fun s => VC18_k1 g K) (fun s h => ?_) (fun rest2 => ?_)
  ·have h : VC18_k1 g K := h
   unfold VC18_k1 at h
   refine thenQ_n ?_
   refine aw_seq ?_
   refine sr ?_
   refine rq 10 (ob := (Ts 4 (Ti 5 ((decide (g.2.2.1 < (0 : Int))) = false → True) (Ts 1 True)))) (st' := (⟨78, [sp 1 1, sB 52 ((decide (g.2.2.1 < (0 : Int))) || (decide (g.2.1 ≤ g.2.2.1)))], [e18_0 g]⟩ : St)) (by kernel_rfl) (tsI 4 (tiI 5 (fun _ => trivial) (tsI 1 trivial))) ?_
   refine nn ?_
   refine aw_cond (b := ((decide (g.2.2.1 < (0 : Int))) || (decide (g.2.1 ≤ g.2.2.1)))) (by kernel_rfl) (fun hb => ?_) (fun hb => ?_)
   ·have h := h.1 hb
    refine sr ?_
    refine rq 1 (ob := (Ts 1 True)) (st' := (⟨78, [sI 2 (2 : Int)], []⟩ : St)) (by kernel_rfl) (tsI 1 trivial) ?_
    refine nn ?_
    refine aw_ret ?_
    refine thenQ_r ?_
    exact retQ_r (ob := Ts 1 True) _ (by kernel_rfl) (tsI 1 trivial) h
   ·have h := h.2 hb
    refine aw_skip ?_
    refine thenQ_n ?_
    refine aw_seq ?_
    refine sr ?_
    refine rq 4 (ob := (Ts 4 True)) (st' := (⟨78, [sp 1 1, e18_1 g, e18_4 g, sI 56 (0 : Int)], [e18_0 g]⟩ : St)) (by kernel_rfl) (tsI 4 trivial) ?_
    refine nn ?_
    refine withJoin (σ := Unit) (fun s => (⟨78, [], []⟩ : St)) (fun s => VC18_k2 K) (fun s h => ?_) (fun rest1 => ?_)
    ·have h : VC18_k2 K := h
     unfold VC18_k2 at h
     refine thenQ_n ?_
     refine sr ?_
     refine rq 1 (ob := (Ts 1 True)) (st' := (⟨78, [sI 2 (0 : Int)], []⟩ : St)) (by kernel_rfl) (tsI 1 trivial) ?_
     refine nn ?_
     refine aw_ret ?_
     exact retQ_r (ob := Ts 1 True) _ (by kernel_rfl) (tsI 1 trivial) h
    ·refine aw_block ?_
     refine aw_loop (σ := Int) (fun s => (⟨78, [sp 1 1, e18_1 g, e18_4 g, sI 56 s], [e18_0 g]⟩ : St)) (fun s X => VC18_l1 g K s X) (s0 := (0 : Int)) (fun v56 X1 h => ?_) h
     have h : VC18_l1 g K v56 X1 := h
     unfold VC18_l1 at h
     refine sr ?_
     refine rq 1 (ob := (Ts 1 True)) (st' := (⟨78, [sp 1 1, e18_1 g, e18_4 g, sI 56 v56, sB 57 (decide (v56 < (g.2.2.2.length : Int)))], [e18_0 g]⟩ : St)) (by kernel_rfl) (tsI 1 trivial) ?_
     refine nn ?_
     refine aw_seq ?_
     refine aw_cond (b := (decide (v56 < (g.2.2.2.length : Int)))) (by kernel_rfl) (fun hb => ?_) (fun hb => ?_)
     ·have h := h.1 hb
      refine aw_skip ?_
      refine thenQ_n ?_
      refine aw_seq ?_
      refine aw_block ?_
      refine sr ?_
      obtain ⟨o1, h⟩ := h
      refine rq 4 (ob := (inIdx v56 g.2.2.2.length ∧ Ts 3 True)) (st' := (⟨78, [sp 1 1, sp 6 6, e18_1 g, e18_4 g, sI 56 v56], [e18_0 g, hB 6 [.pI ((g.2.2.2.getD (v56).toNat ((0 : Int), ([] : LI))).1), .pS ((g.2.2.2.getD (v56).toNat ((0 : Int), ([] : LI))).2)]]⟩ : St)) (by kernel_rfl) (⟨o1, tsI 3 trivial⟩) ?_
      refine nsr ?_
      refine rq 14 (ob := (Ts 4 (Ti 5 ((decide ((g.2.2.2.getD (v56).toNat ((0 : Int), ([] : LI))).1 < (0 : Int))) = false → True) (Ts 2 (Ti 3 (((decide ((g.2.2.2.getD (v56).toNat ((0 : Int), ([] : LI))).1 < (0 : Int))) || (decide (g.2.1 ≤ (g.2.2.2.getD (v56).toNat ((0 : Int), ([] : LI))).1))) = false → True) True))))) (st' := (⟨78, [sp 1 1, e18_1 g, e18_4 g, sI 56 v56, e18_3 g v56, (71, [(70, false)], .v (.agg [.pI g.1, .pI g.2.1, .pI g.2.2.1, .p (.sl (.pr (.int .i64) (.sl (.int .i64)))) g.2.2.2])), (73, [(70, false)], .v (.c (.pS ((g.2.2.2.getD (v56).toNat ((0 : Int), ([] : LI))).2))))], [e18_0 g]⟩ : St)) (by kernel_rfl) (tsI 4 (tiI 5 (fun _ => trivial) (tsI 2 (tiI 3 (fun _ => trivial) trivial)))) ?_
      refine awl_callk (p := [(70, false)]) (l := [toV1 (.pr (.int .i64) (.pr (.int .i64) (.pr (.int .i64) (.sl (.pr (.int .i64) (.sl (.int .i64))))))) g, toV1 (.sl (.int .i64)) ((g.2.2.2.getD (v56).toNat ((0 : Int), ([] : LI))).2)]) (cl := []) false [.d (.pr (.int .i64) (.pr (.int .i64) (.pr (.int .i64) (.sl (.pr (.int .i64) (.sl (.int .i64))))))), .d (.sl (.int .i64))] [1, 54, 55, 56, 70, 74] [1] (fun (ret74v : Bool) => (((((decide ((g.2.2.2.getD (v56).toNat ((0 : Int), ([] : LI))).1 < (0 : Int))) || (decide (g.2.1 ≤ (g.2.2.2.getD (v56).toNat ((0 : Int), ([] : LI))).1))) || (!ret74v)) = true → K (2 : Int)) ∧ ((((decide ((g.2.2.2.getD (v56).toNat ((0 : Int), ([] : LI))).1 < (0 : Int))) || (decide (g.2.1 ≤ (g.2.2.2.getD (v56).toNat ((0 : Int), ([] : LI))).1))) || (!ret74v)) = false → (InR (v56 + (1 : Int)) ∧ X1 (v56 + (1 : Int)))))) (fun ret74v => [toV1 .bool ret74v]) (fun ret74v => (⟨78, [sp 1 1, e18_1 g, e18_4 g, sI 56 v56, e18_3 g v56, (74, [(70, false)], .v (.c (.pB ret74v)))], [e18_0 g]⟩ : St)) (by kernel_rfl) rfl (by kernel_rfl) rfl (by kernel_rfl) Try.call43 (by kernel_rfl) (fun ret74v => by kernel_rfl) (fun e => by cases e) (fun hg => link43 g ((g.2.2.2.getD (v56).toNat ((0 : Int), ([] : LI))).2) _ (by have := gcall_T h (show (!((decide ((g.2.2.2.getD (v56).toNat ((0 : Int), ([] : LI))).1 < (0 : Int))) || (decide (g.2.1 ≤ (g.2.2.2.getD (v56).toNat ((0 : Int), ([] : LI))).1)))) = true from hg); exact this)) (fun hg => ⟨false, by have := gcall_F h (show (!((decide ((g.2.2.2.getD (v56).toNat ((0 : Int), ([] : LI))).1 < (0 : Int))) || (decide (g.2.1 ≤ (g.2.2.2.getD (v56).toNat ((0 : Int), ([] : LI))).1)))) = false from hg); exact this⟩) (fun ret74v h => ?_)
      refine rq 2 (ob := ((((decide ((g.2.2.2.getD (v56).toNat ((0 : Int), ([] : LI))).1 < (0 : Int))) || (decide (g.2.1 ≤ (g.2.2.2.getD (v56).toNat ((0 : Int), ([] : LI))).1))) = false → True) ∧ Ts 1 True)) (st' := (⟨78, [sp 1 1, e18_1 g, e18_4 g, sI 56 v56, sB 76 (((decide ((g.2.2.2.getD (v56).toNat ((0 : Int), ([] : LI))).1 < (0 : Int))) || (decide (g.2.1 ≤ (g.2.2.2.getD (v56).toNat ((0 : Int), ([] : LI))).1))) || (!ret74v))], [e18_0 g]⟩ : St)) (by kernel_rfl) (⟨(fun _ => trivial), tsI 1 trivial⟩) ?_
      refine nn ?_
      refine aw_cond (b := (((decide ((g.2.2.2.getD (v56).toNat ((0 : Int), ([] : LI))).1 < (0 : Int))) || (decide (g.2.1 ≤ (g.2.2.2.getD (v56).toNat ((0 : Int), ([] : LI))).1))) || (!ret74v))) (by kernel_rfl) (fun hb => ?_) (fun hb => ?_)
      ·have h := h.1 hb
       refine sr ?_
       refine rq 1 (ob := (Ts 1 True)) (st' := (⟨78, [sI 2 (2 : Int)], []⟩ : St)) (by kernel_rfl) (tsI 1 trivial) ?_
       refine nn ?_
       refine aw_ret ?_
       refine blockQ_r ?_
       refine thenQ_r ?_
       refine thenQ_r ?_
       refine blockQ_r ?_
       refine thenQ_r ?_
       exact retQ_r (ob := Ts 1 True) _ (by kernel_rfl) (tsI 1 trivial) h
      ·have h := h.2 hb
       refine aw_skip ?_
       refine blockQ_n ?_
       refine thenQ_n ?_
       refine aw_region ?_
       obtain ⟨o1, h⟩ := h
       refine rq 2 (ob := (InR (v56 + (1 : Int)) ∧ Ts 1 True)) (st' := (⟨78, [sp 1 1, e18_1 g, e18_4 g, sI 56 (v56 + (1 : Int))], [e18_0 g]⟩ : St)) (by kernel_rfl) (⟨o1, tsI 1 trivial⟩) ?_
       refine awl_nil ?_
       exact thenQ_n ⟨(v56 + (1 : Int)), rfl, h⟩
     ·have h := h.2 hb
      refine cpr (st' := (⟨78, [], []⟩ : St)) (by kernel_rfl) ?_
      refine aw_exit ?_
      refine thenQ_x ?_
      refine thenQ_x ?_
      refine blockQ_hit ?_
      exact rest1 () h
  ·refine aw_block ?_
   refine aw_loop (σ := Int) (fun s => (⟨78, [sp 1 1, e18_2 g, e18_5 g, sI 34 s], [e18_0 g]⟩ : St)) (fun s X => VC18_l2 g K s X) (s0 := (0 : Int)) (fun v34 X2 h => ?_) h
   have h : VC18_l2 g K v34 X2 := h
   unfold VC18_l2 at h
   refine sr ?_
   refine rq 1 (ob := (Ts 1 True)) (st' := (⟨78, [sp 1 1, e18_2 g, e18_5 g, sI 34 v34, sB 35 (decide (v34 < (g.2.2.2.length : Int)))], [e18_0 g]⟩ : St)) (by kernel_rfl) (tsI 1 trivial) ?_
   refine nn ?_
   refine aw_seq ?_
   refine aw_cond (b := (decide (v34 < (g.2.2.2.length : Int)))) (by kernel_rfl) (fun hb => ?_) (fun hb => ?_)
   ·have h := h.1 hb
    refine aw_skip ?_
    refine thenQ_n ?_
    refine aw_seq ?_
    refine aw_block ?_
    refine sr ?_
    obtain ⟨o1, h⟩ := h
    refine rq 4 (ob := (inIdx v34 g.2.2.2.length ∧ Ts 3 True)) (st' := (⟨78, [sp 1 1, sp 4 4, e18_2 g, e18_5 g, sI 34 v34], [e18_0 g, hB 4 [.pI ((g.2.2.2.getD (v34).toNat ((0 : Int), ([] : LI))).1), .pS ((g.2.2.2.getD (v34).toNat ((0 : Int), ([] : LI))).2)]]⟩ : St)) (by kernel_rfl) (⟨o1, tsI 3 trivial⟩) ?_
    refine nsr ?_
    refine rq 4 (ob := (Ts 4 True)) (st' := (⟨78, [sp 1 1, e18_2 g, e18_5 g, sI 34 v34, sB 41 (decide ((4 : Int) < (((g.2.2.2.getD (v34).toNat ((0 : Int), ([] : LI))).2).length : Int)))], [e18_0 g]⟩ : St)) (by kernel_rfl) (tsI 4 trivial) ?_
    refine nn ?_
    refine aw_cond (b := (decide ((4 : Int) < (((g.2.2.2.getD (v34).toNat ((0 : Int), ([] : LI))).2).length : Int)))) (by kernel_rfl) (fun hb => ?_) (fun hb => ?_)
    ·have h := h.1 hb
     refine sr ?_
     refine rq 1 (ob := (Ts 1 True)) (st' := (⟨78, [sI 2 (1 : Int)], []⟩ : St)) (by kernel_rfl) (tsI 1 trivial) ?_
     refine nn ?_
     refine aw_ret ?_
     refine blockQ_r ?_
     refine thenQ_r ?_
     refine thenQ_r ?_
     refine blockQ_r ?_
     refine thenQ_r ?_
     exact retQ_r (ob := Ts 1 True) _ (by kernel_rfl) (tsI 1 trivial) h
    ·have h := h.2 hb
     refine aw_skip ?_
     refine blockQ_n ?_
     refine thenQ_n ?_
     refine aw_region ?_
     obtain ⟨o1, h⟩ := h
     refine rq 2 (ob := (InR (v34 + (1 : Int)) ∧ Ts 1 True)) (st' := (⟨78, [sp 1 1, e18_2 g, e18_5 g, sI 34 (v34 + (1 : Int))], [e18_0 g]⟩ : St)) (by kernel_rfl) (⟨o1, tsI 1 trivial⟩) ?_
     refine awl_nil ?_
     exact thenQ_n ⟨(v34 + (1 : Int)), rfl, h⟩
   ·have h := h.2 hb
    refine cpr (st' := (⟨78, [sp 1 1], [e18_0 g]⟩ : St)) (by kernel_rfl) ?_
    refine aw_exit ?_
    refine thenQ_x ?_
    refine thenQ_x ?_
    refine blockQ_hit ?_
    exact rest2 () h

abbrev e46_0 (w : LI) : Nat × Path × AV := sI 11 (w.length : Int)
-- coppicer/coppicerref.WordCheck
def VC46_k1 (K : Int → Prop) : Prop :=
  K (0 : Int)

def VC46_l1 (k : Int) (w : LI) (K : Int → Prop) (v12 : Int) (X1 : Int → Prop) : Prop :=
  (((decide (v12 < (w.length : Int))) = true → (inIdx v12 w.length ∧ ((((decide ((w.getD (v12).toNat (0 : Int)) < (0 : Int))) || (decide (k ≤ (w.getD (v12).toNat (0 : Int))))) = true → K (2 : Int)) ∧ (((decide ((w.getD (v12).toNat (0 : Int)) < (0 : Int))) || (decide (k ≤ (w.getD (v12).toNat (0 : Int))))) = false → (InR (v12 + (1 : Int)) ∧ X1 (v12 + (1 : Int))))))) ∧ ((decide (v12 < (w.length : Int))) = false → VC46_k1 K))

def VC46 (k : Int) (w : LI) (K : Int → Prop) : Prop :=
  (((decide ((12 : Int) < (w.length : Int))) = true → K (1 : Int)) ∧ ((decide ((12 : Int) < (w.length : Int))) = false → Loop (σ := Int) (fun s X => VC46_l1 k w K s X) (0 : Int)))

set_option maxHeartbeats 4000000 in
theorem link46 (k : Int) (w : LI) (K : Int → Prop) (h : VC46 k w K) : ACalls Try.prog 46 [toV1 (.int .i64) k, toV1 (.sl (.int .i64)) w] (fun res => ∃ y, res = (fun y => [toV1 (.int .i64) y]) y ∧ K y) := by
 refine acalls_of_aw [(.int .i64)] [.t 4] Try.func46 rfl rfl rfl ?_
 unfold VC46 at h
 refine sr ?_
 refine rq 1 (ob := (Ts 1 True)) (st' := (⟨24, [sI 0 k, s1 1 (.pS w)], []⟩ : St)) (by kernel_rfl) (tsI 1 trivial) ?_
 refine nn ?_
 refine aw_seq ?_
 refine sr ?_
 refine rq 3 (ob := (Ts 3 True)) (st' := (⟨24, [sI 0 k, s1 1 (.pS w), sB 9 (decide ((12 : Int) < (w.length : Int)))], []⟩ : St)) (by kernel_rfl) (tsI 3 trivial) ?_
 refine nn ?_
 refine aw_cond (b := (decide ((12 : Int) < (w.length : Int)))) (by kernel_rfl) (fun hb => ?_) (fun hb => ?_)
 ·have h := h.1 hb
  refine sr ?_
  refine rq 1 (ob := (Ts 1 True)) (st' := (⟨24, [sI 4 (1 : Int)], []⟩ : St)) (by kernel_rfl) (tsI 1 trivial) ?_
  refine nn ?_
  refine aw_ret ?_
  refine thenQ_r ?_
  exact retQ_r (ob := Ts 1 True) _ (by kernel_rfl) (tsI 1 trivial) h
 ·have h := h.2 hb
  refine aw_skip ?_
  refine thenQ_n ?_
  refine aw_seq ?_
  refine sr ?_
  refine rq 3 (ob := (Ts 3 True)) (st' := (⟨24, [sI 0 k, s1 10 (.pS w), e46_0 w, sI 12 (0 : Int)], []⟩ : St)) (by kernel_rfl) (tsI 3 trivial) ?_
  refine nn ?_
  refine withJoin (σ := Unit) (fun s => (⟨24, [], []⟩ : St)) (fun s => VC46_k1 K) (fun s h => ?_) (fun rest1 => ?_)
  ·have h : VC46_k1 K := h
   unfold VC46_k1 at h
   refine thenQ_n ?_
   refine sr ?_
   refine rq 1 (ob := (Ts 1 True)) (st' := (⟨24, [sI 4 (0 : Int)], []⟩ : St)) (by kernel_rfl) (tsI 1 trivial) ?_
   refine nn ?_
   refine aw_ret ?_
   exact retQ_r (ob := Ts 1 True) _ (by kernel_rfl) (tsI 1 trivial) h
  ·refine aw_block ?_
   refine aw_loop (σ := Int) (fun s => (⟨24, [sI 0 k, s1 10 (.pS w), e46_0 w, sI 12 s], []⟩ : St)) (fun s X => VC46_l1 k w K s X) (s0 := (0 : Int)) (fun v12 X1 h => ?_) h
   have h : VC46_l1 k w K v12 X1 := h
   unfold VC46_l1 at h
   refine sr ?_
   refine rq 1 (ob := (Ts 1 True)) (st' := (⟨24, [sI 0 k, s1 10 (.pS w), e46_0 w, sI 12 v12, sB 13 (decide (v12 < (w.length : Int)))], []⟩ : St)) (by kernel_rfl) (tsI 1 trivial) ?_
   refine nn ?_
   refine aw_seq ?_
   refine aw_cond (b := (decide (v12 < (w.length : Int)))) (by kernel_rfl) (fun hb => ?_) (fun hb => ?_)
   ·have h := h.1 hb
    refine aw_skip ?_
    refine thenQ_n ?_
    refine aw_seq ?_
    refine aw_block ?_
    refine sr ?_
    obtain ⟨o1, h⟩ := h
    refine rq 3 (ob := (inIdx v12 w.length ∧ Ts 2 True)) (st' := (⟨24, [sI 0 k, sI 6 (w.getD (v12).toNat (0 : Int)), s1 10 (.pS w), e46_0 w, sI 12 v12], []⟩ : St)) (by kernel_rfl) (⟨o1, tsI 2 trivial⟩) ?_
    refine nsr ?_
    refine rq 7 (ob := (Ts 3 (Ti 3 ((decide ((w.getD (v12).toNat (0 : Int)) < (0 : Int))) = false → True) (Ts 1 True)))) (st' := (⟨24, [sI 0 k, s1 10 (.pS w), e46_0 w, sI 12 v12, sB 22 ((decide ((w.getD (v12).toNat (0 : Int)) < (0 : Int))) || (decide (k ≤ (w.getD (v12).toNat (0 : Int)))))], []⟩ : St)) (by kernel_rfl) (tsI 3 (tiI 3 (fun _ => trivial) (tsI 1 trivial))) ?_
    refine nn ?_
    refine aw_cond (b := ((decide ((w.getD (v12).toNat (0 : Int)) < (0 : Int))) || (decide (k ≤ (w.getD (v12).toNat (0 : Int)))))) (by kernel_rfl) (fun hb => ?_) (fun hb => ?_)
    ·have h := h.1 hb
     refine sr ?_
     refine rq 1 (ob := (Ts 1 True)) (st' := (⟨24, [sI 4 (2 : Int)], []⟩ : St)) (by kernel_rfl) (tsI 1 trivial) ?_
     refine nn ?_
     refine aw_ret ?_
     refine blockQ_r ?_
     refine thenQ_r ?_
     refine thenQ_r ?_
     refine blockQ_r ?_
     refine thenQ_r ?_
     exact retQ_r (ob := Ts 1 True) _ (by kernel_rfl) (tsI 1 trivial) h
    ·have h := h.2 hb
     refine aw_skip ?_
     refine blockQ_n ?_
     refine thenQ_n ?_
     refine aw_region ?_
     obtain ⟨o1, h⟩ := h
     refine rq 2 (ob := (InR (v12 + (1 : Int)) ∧ Ts 1 True)) (st' := (⟨24, [sI 0 k, s1 10 (.pS w), e46_0 w, sI 12 (v12 + (1 : Int))], []⟩ : St)) (by kernel_rfl) (⟨o1, tsI 1 trivial⟩) ?_
     refine awl_nil ?_
     exact thenQ_n ⟨(v12 + (1 : Int)), rfl, h⟩
   ·have h := h.2 hb
    refine cpr (st' := (⟨24, [], []⟩ : St)) (by kernel_rfl) ?_
    refine aw_exit ?_
    refine thenQ_x ?_
    refine thenQ_x ?_
    refine blockQ_hit ?_
    exact rest1 () h

abbrev e21_0 (g : (Int × (Int × (Int × (List (Int × LI)))))) : Nat × Path × Con := hB 2 [.pI g.1, .pI g.2.1, .pI g.2.2.1, .p (.sl (.pr (.int .i64) (.sl (.int .i64)))) g.2.2.2]
-- coppicer/coppicerkeep.grown
def VC21 (g : (Int × (Int × (Int × (List (Int × LI)))))) (w : LI) (K : Bool → Prop) : Prop :=
  VC18 g (fun (ret6v : Int) => gcall (α := Int) (decide (ret6v = (0 : Int))) (VC46 g.1 w) (0 : Int) (fun (ret12v : Int) => K ((decide (ret6v = (0 : Int))) && (decide (ret12v = (0 : Int))))))

set_option maxHeartbeats 4000000 in
theorem link21 (g : (Int × (Int × (Int × (List (Int × LI)))))) (w : LI) (K : Bool → Prop) (h : VC21 g w K) : ACalls Try.prog 21 [toV1 (.pr (.int .i64) (.pr (.int .i64) (.pr (.int .i64) (.sl (.pr (.int .i64) (.sl (.int .i64))))))) g, toV1 (.sl (.int .i64)) w] (fun res => ∃ y, res = (fun y => [toV1 .bool y]) y ∧ K y) := by
 refine acalls_of_aw [.bool] [.t 4] Try.func21 rfl rfl rfl ?_
 unfold VC21 at h
 refine sr ?_
 refine rq 2 (ob := (Ts 2 True)) (st' := (⟨15, [s1 1 (.pS w), sp 2 2], [e21_0 g]⟩ : St)) (by kernel_rfl) (tsI 2 trivial) ?_
 refine nsr ?_
 refine rq 1 (ob := (Ts 1 True)) (st' := (⟨15, [s1 1 (.pS w), sp 2 2, sA 5 [.pI g.1, .pI g.2.1, .pI g.2.2.1, .p (.sl (.pr (.int .i64) (.sl (.int .i64)))) g.2.2.2]], [e21_0 g]⟩ : St)) (by kernel_rfl) (tsI 1 trivial) ?_
 refine lcq (d := 6) [.d (.pr (.int .i64) (.pr (.int .i64) (.pr (.int .i64) (.sl (.pr (.int .i64) (.sl (.int .i64)))))))] (fun ret6v => (⟨15, [s1 1 (.pS w), sp 2 2, sI 6 ret6v], [e21_0 g]⟩ : St)) (by kernel_rfl) Try.call18 (fun _ => by kernel_rfl) (link18 g _ h) (fun ret6v h => ?_)
 refine rq 5 (ob := (Ts 2 (Ti 3 ((decide (ret6v = (0 : Int))) = true → True) True))) (st' := (⟨15, [sB 8 (decide (ret6v = (0 : Int))), (10, [(8, true)], .v (.c (.pI g.1))), (11, [(8, true)], .v (.c (.pS w)))], []⟩ : St)) (by kernel_rfl) (tsI 2 (tiI 3 (fun _ => trivial) trivial)) ?_
 refine awl_callk (p := [(8, true)]) (l := [toV1 (.int .i64) g.1, toV1 (.sl (.int .i64)) w]) (cl := []) false [.d (.int .i64), .d (.sl (.int .i64))] [8, 12] [] (fun (ret12v : Int) => K ((decide (ret6v = (0 : Int))) && (decide (ret12v = (0 : Int))))) (fun ret12v => [toV1 (.int .i64) ret12v]) (fun ret12v => (⟨15, [sB 8 (decide (ret6v = (0 : Int))), (12, [(8, true)], .v (.c (.pI ret12v)))], []⟩ : St)) (by kernel_rfl) rfl (by kernel_rfl) rfl (by kernel_rfl) Try.call46 (by kernel_rfl) (fun ret12v => by kernel_rfl) (fun e => by cases e) (fun hg => link46 g.1 w _ (by have := gcall_T h (show (decide (ret6v = (0 : Int))) = true from hg); exact this)) (fun hg => ⟨(0 : Int), by have := gcall_F h (show (decide (ret6v = (0 : Int))) = false from hg); exact this⟩) (fun ret12v h => ?_)
 refine rq 3 (ob := (((decide (ret6v = (0 : Int))) = true → True) ∧ Ts 2 True)) (st' := (⟨15, [sB 4 ((decide (ret6v = (0 : Int))) && (decide (ret12v = (0 : Int))))], []⟩ : St)) (by kernel_rfl) (⟨(fun _ => trivial), tsI 2 trivial⟩) ?_
 refine nn ?_
 refine aw_ret ?_
 exact retQ_r (ob := Ts 1 True) _ (by kernel_rfl) (tsI 1 trivial) h

abbrev e28_0 (g : (Int × (Int × (Int × (List (Int × LI)))))) : Nat × Path × Con := hB 1 [.pI g.1, .pI g.2.1, .pI g.2.2.1, .p (.sl (.pr (.int .i64) (.sl (.int .i64)))) g.2.2.2]
abbrev e28_1 (g : (Int × (Int × (Int × (List (Int × LI)))))) : Nat × Path × AV := s1 6 (.p (.sl (.pr (.int .i64) (.sl (.int .i64)))) g.2.2.2)
abbrev e28_2 (g : (Int × (Int × (Int × (List (Int × LI)))))) : Nat × Path × AV := sI 7 (g.2.2.2.length : Int)
-- coppicer/coppicerref.Proper
def VC28_k1 (K : Bool → Prop) : Prop :=
  K true

def VC28_l1 (g : (Int × (Int × (Int × (List (Int × LI)))))) (K : Bool → Prop) (v8 : Int) (X1 : Int → Prop) : Prop :=
  (((decide (v8 < (g.2.2.2.length : Int))) = true → (inIdx v8 g.2.2.2.length ∧ (((decide ((((g.2.2.2.getD (v8).toNat ((0 : Int), ([] : LI))).2).length : Int) = (0 : Int))) = false → ((decide ((((g.2.2.2.getD (v8).toNat ((0 : Int), ([] : LI))).2).length : Int) = (1 : Int))) = true → inIdx (0 : Int) ((g.2.2.2.getD (v8).toNat ((0 : Int), ([] : LI))).2).length)) ∧ ((((decide ((((g.2.2.2.getD (v8).toNat ((0 : Int), ([] : LI))).2).length : Int) = (0 : Int))) || ((decide ((((g.2.2.2.getD (v8).toNat ((0 : Int), ([] : LI))).2).length : Int) = (1 : Int))) && (decide (g.1 ≤ (((g.2.2.2.getD (v8).toNat ((0 : Int), ([] : LI))).2).getD ((0 : Int)).toNat (0 : Int)))))) = true → K false) ∧ (((decide ((((g.2.2.2.getD (v8).toNat ((0 : Int), ([] : LI))).2).length : Int) = (0 : Int))) || ((decide ((((g.2.2.2.getD (v8).toNat ((0 : Int), ([] : LI))).2).length : Int) = (1 : Int))) && (decide (g.1 ≤ (((g.2.2.2.getD (v8).toNat ((0 : Int), ([] : LI))).2).getD ((0 : Int)).toNat (0 : Int)))))) = false → (InR (v8 + (1 : Int)) ∧ X1 (v8 + (1 : Int)))))))) ∧ ((decide (v8 < (g.2.2.2.length : Int))) = false → VC28_k1 K))

def VC28 (g : (Int × (Int × (Int × (List (Int × LI)))))) (K : Bool → Prop) : Prop :=
  Loop (σ := Int) (fun s X => VC28_l1 g K s X) (0 : Int)

set_option maxHeartbeats 4000000 in
theorem link28 (g : (Int × (Int × (Int × (List (Int × LI)))))) (K : Bool → Prop) (h : VC28 g K) : ACalls Try.prog 28 [toV1 (.pr (.int .i64) (.pr (.int .i64) (.pr (.int .i64) (.sl (.pr (.int .i64) (.sl (.int .i64))))))) g] (fun res => ∃ y, res = (fun y => [toV1 .bool y]) y ∧ K y) := by
 refine acalls_of_aw [.bool] [.t 2] Try.func28 rfl rfl rfl ?_
 unfold VC28 at h
 refine sr ?_
 refine rq 2 (ob := (Ts 2 True)) (st' := (⟨32, [sp 1 1], [e28_0 g]⟩ : St)) (by kernel_rfl) (tsI 2 trivial) ?_
 refine nn ?_
 refine aw_seq ?_
 refine sr ?_
 refine rq 4 (ob := (Ts 4 True)) (st' := (⟨32, [sp 1 1, e28_1 g, e28_2 g, sI 8 (0 : Int)], [e28_0 g]⟩ : St)) (by kernel_rfl) (tsI 4 trivial) ?_
 refine nn ?_
 refine withJoin (σ := Unit) (fun s => (⟨32, [], []⟩ : St)) (fun s => VC28_k1 K) (fun s h => ?_) (fun rest1 => ?_)
 ·have h : VC28_k1 K := h
  unfold VC28_k1 at h
  refine thenQ_n ?_
  refine sr ?_
  refine rq 1 (ob := (Ts 1 True)) (st' := (⟨32, [sB 2 true], []⟩ : St)) (by kernel_rfl) (tsI 1 trivial) ?_
  refine nn ?_
  refine aw_ret ?_
  exact retQ_r (ob := Ts 1 True) _ (by kernel_rfl) (tsI 1 trivial) h
 ·refine aw_block ?_
  refine aw_loop (σ := Int) (fun s => (⟨32, [sp 1 1, e28_1 g, e28_2 g, sI 8 s], [e28_0 g]⟩ : St)) (fun s X => VC28_l1 g K s X) (s0 := (0 : Int)) (fun v8 X1 h => ?_) h
  have h : VC28_l1 g K v8 X1 := h
  unfold VC28_l1 at h
  refine sr ?_
  refine rq 1 (ob := (Ts 1 True)) (st' := (⟨32, [sp 1 1, e28_1 g, e28_2 g, sI 8 v8, sB 9 (decide (v8 < (g.2.2.2.length : Int)))], [e28_0 g]⟩ : St)) (by kernel_rfl) (tsI 1 trivial) ?_
  refine nn ?_
  refine aw_seq ?_
  refine aw_cond (b := (decide (v8 < (g.2.2.2.length : Int)))) (by kernel_rfl) (fun hb => ?_) (fun hb => ?_)
  ·have h := h.1 hb
   refine aw_skip ?_
   refine thenQ_n ?_
   refine aw_seq ?_
   refine aw_block ?_
   refine sr ?_
   obtain ⟨o1, h⟩ := h
   refine rq 4 (ob := (inIdx v8 g.2.2.2.length ∧ Ts 3 True)) (st' := (⟨32, [sp 1 1, sp 4 4, e28_1 g, e28_2 g, sI 8 v8], [e28_0 g, hB 4 [.pI ((g.2.2.2.getD (v8).toNat ((0 : Int), ([] : LI))).1), .pS ((g.2.2.2.getD (v8).toNat ((0 : Int), ([] : LI))).2)]]⟩ : St)) (by kernel_rfl) (⟨o1, tsI 3 trivial⟩) ?_
   refine nn ?_
   refine aw_seq ?_
   refine awd_begin [] (by kernel_rfl) ?_
   obtain ⟨o1, h⟩ := h
   refine drq (by kernel_rfl) [0, 1, 2, 3, 4, 5, 6, 7, 8, 9, 10, 11, 12, 13, 14, 15, 16, 17, 18] (ob := (Ts 5 (Ti 5 ((decide ((((g.2.2.2.getD (v8).toNat ((0 : Int), ([] : LI))).2).length : Int) = (0 : Int))) = false → True) (((decide ((((g.2.2.2.getD (v8).toNat ((0 : Int), ([] : LI))).2).length : Int) = (0 : Int))) = false → ((decide ((((g.2.2.2.getD (v8).toNat ((0 : Int), ([] : LI))).2).length : Int) = (1 : Int))) = true → True)) ∧ ((decide ((((g.2.2.2.getD (v8).toNat ((0 : Int), ([] : LI))).2).length : Int) = (0 : Int))) = false → ((decide ((((g.2.2.2.getD (v8).toNat ((0 : Int), ([] : LI))).2).length : Int) = (1 : Int))) = true → True)) ∧ ((decide ((((g.2.2.2.getD (v8).toNat ((0 : Int), ([] : LI))).2).length : Int) = (0 : Int))) = false → ((decide ((((g.2.2.2.getD (v8).toNat ((0 : Int), ([] : LI))).2).length : Int) = (1 : Int))) = true → inIdx (0 : Int) ((g.2.2.2.getD (v8).toNat ((0 : Int), ([] : LI))).2).length)) ∧ ((decide ((((g.2.2.2.getD (v8).toNat ((0 : Int), ([] : LI))).2).length : Int) = (0 : Int))) = false → ((decide ((((g.2.2.2.getD (v8).toNat ((0 : Int), ([] : LI))).2).length : Int) = (1 : Int))) = true → True)) ∧ ((decide ((((g.2.2.2.getD (v8).toNat ((0 : Int), ([] : LI))).2).length : Int) = (0 : Int))) = false → ((decide ((((g.2.2.2.getD (v8).toNat ((0 : Int), ([] : LI))).2).length : Int) = (1 : Int))) = true → True)) ∧ ((decide ((((g.2.2.2.getD (v8).toNat ((0 : Int), ([] : LI))).2).length : Int) = (0 : Int))) = false → ((decide ((((g.2.2.2.getD (v8).toNat ((0 : Int), ([] : LI))).2).length : Int) = (1 : Int))) = true → True)) ∧ ((decide ((((g.2.2.2.getD (v8).toNat ((0 : Int), ([] : LI))).2).length : Int) = (0 : Int))) = false → ((decide ((((g.2.2.2.getD (v8).toNat ((0 : Int), ([] : LI))).2).length : Int) = (1 : Int))) = true → True)) ∧ ((decide ((((g.2.2.2.getD (v8).toNat ((0 : Int), ([] : LI))).2).length : Int) = (0 : Int))) = false → True) ∧ Ts 1 True)))) (done' := [18, 17, 16, 15, 14, 13, 12, 11, 10, 9, 8, 7, 6, 5, 4, 3, 2, 1, 0]) (st' := (⟨32, [sp 1 1, e28_1 g, e28_2 g, sI 8 v8, sB 30 ((decide ((((g.2.2.2.getD (v8).toNat ((0 : Int), ([] : LI))).2).length : Int) = (0 : Int))) || ((decide ((((g.2.2.2.getD (v8).toNat ((0 : Int), ([] : LI))).2).length : Int) = (1 : Int))) && (decide (g.1 ≤ (((g.2.2.2.getD (v8).toNat ((0 : Int), ([] : LI))).2).getD ((0 : Int)).toNat (0 : Int))))))], [e28_0 g]⟩ : St)) (by kernel_rfl) (tsI 5 (tiI 5 (fun _ => trivial) (tiI 2 (fun _ _ => trivial) (⟨o1, tiI 4 (fun _ _ => trivial) ⟨(fun _ => trivial), tsI 1 trivial⟩⟩)))) ?_
   refine awd_done (by kernel_rfl) ?_
   refine thenQ_n ?_
   refine aw_cond (b := ((decide ((((g.2.2.2.getD (v8).toNat ((0 : Int), ([] : LI))).2).length : Int) = (0 : Int))) || ((decide ((((g.2.2.2.getD (v8).toNat ((0 : Int), ([] : LI))).2).length : Int) = (1 : Int))) && (decide (g.1 ≤ (((g.2.2.2.getD (v8).toNat ((0 : Int), ([] : LI))).2).getD ((0 : Int)).toNat (0 : Int))))))) (by kernel_rfl) (fun hb => ?_) (fun hb => ?_)
   ·have h := h.1 hb
    refine sr ?_
    refine rq 1 (ob := (Ts 1 True)) (st' := (⟨32, [sB 2 false], []⟩ : St)) (by kernel_rfl) (tsI 1 trivial) ?_
    refine nn ?_
    refine aw_ret ?_
    refine blockQ_r ?_
    refine thenQ_r ?_
    refine thenQ_r ?_
    refine blockQ_r ?_
    refine thenQ_r ?_
    exact retQ_r (ob := Ts 1 True) _ (by kernel_rfl) (tsI 1 trivial) h
   ·have h := h.2 hb
    refine aw_skip ?_
    refine blockQ_n ?_
    refine thenQ_n ?_
    refine aw_region ?_
    obtain ⟨o1, h⟩ := h
    refine rq 2 (ob := (InR (v8 + (1 : Int)) ∧ Ts 1 True)) (st' := (⟨32, [sp 1 1, e28_1 g, e28_2 g, sI 8 (v8 + (1 : Int))], [e28_0 g]⟩ : St)) (by kernel_rfl) (⟨o1, tsI 1 trivial⟩) ?_
    refine awl_nil ?_
    exact thenQ_n ⟨(v8 + (1 : Int)), rfl, h⟩
  ·have h := h.2 hb
   refine cpr (st' := (⟨32, [], []⟩ : St)) (by kernel_rfl) ?_
   refine aw_exit ?_
   refine thenQ_x ?_
   refine thenQ_x ?_
   refine blockQ_hit ?_
   exact rest1 () h

end Dec
