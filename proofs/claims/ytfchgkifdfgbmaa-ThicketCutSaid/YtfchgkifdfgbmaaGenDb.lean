/-
Printed by dec2.py: of each function its plain demand, and that the demand gives the contract.
-/
import Derived.Test.YtfchgkifdfgbmaaGenDa
set_option linter.unusedSimpArgs false
set_option linter.unusedVariables false
set_option maxRecDepth 100000
set_option maxHeartbeats 4000000
namespace Dec
open Go Go.RowKit Go.Proofs
abbrev e6b0 (g : TG) (w : LI) (rv : Lqc) := hB 70000 [.pI g.1, .pI g.2.1, .pI g.2.2.1, .p (.sl tR) g.2.2.2, .pS w, .p (.mp (.pr tI tI) (.int .u32)) rv, .own 70001]
abbrev e6b1 (ret51v : Lqb) : Nat × Path × Con := (70001, [], .dict t3 (.sl (.pr tI (.sl t3))) ret51v)
abbrev e6b2 (number : Lqh) (g : TG) (w : LI) := hB 11 [.own 6220, .pI ((mget number ((g.1 + g.2.2.1), ((0 : Int), (w.length : Int)))).getD (0 : Int))]
abbrev e6b3 (l6220 : (List Lqe)) := hA 6220 36 tqa l6220
abbrev e6b4 (srtv : List Lqf) (v57 : Int) := hB 14 [.pI ((srtv.getD ((v57).toNat) z3).1), .pI ((srtv.getD ((v57).toNat) z3).2.1), .pI ((srtv.getD ((v57).toNat) z3).2.2), .own 6283]
abbrev e6b5 := hB 4 [.nils, .pI (0 : Int)]
abbrev e6b6 (ret51v : Lqb) (srtv : List Lqf) (v57 : Int) := s1 75 (.p (.sl (.pr tI (.sl t3))) ((mget ret51v (srtv.getD ((v57).toNat) z3)).getD ([] : Lqg)))
abbrev e6b7 := hB 30000 [.nils, .pI (0 : Int)]
abbrev e6b8 (g : TG) := hB 2 [.pI g.1, .pI g.2.1, .pI g.2.2.1, .p (.sl tR) g.2.2.2]
abbrev e6b9 (ret51v : Lqb) (srtv : List Lqf) (v57 : Int) := sI 76 (((mget ret51v (srtv.getD ((v57).toNat) z3)).getD ([] : Lqg)).length : Int)
abbrev e6b10 (g : TG) (w : LI) := hB 3 [.pI (g.1 + g.2.2.1), .pI (0 : Int), .pI (w.length : Int)]
abbrev e6b11 : Nat × Path × Con := (25, [], .dict t3 (.sl (.pr tI (.sl t3))) ([] : List (Lqf × Lqg)))
abbrev e6b12 (number : Lqh) : Nat × Path × Con := (39, [], .dict t3 tI number)
abbrev e6b13 (ret51v : Lqb) (srtv : List Lqf) (v57 v77 : Int) := sI 86 (((((mget ret51v (srtv.getD ((v57).toNat) z3)).getD ([] : Lqg)).getD (v77).toNat zqc).2).length : Int)
abbrev e6b14 (ret51v : Lqb) (srtv : List Lqf) (v57 v77 : Int) := s1 85 (.p (.sl t3) ((((mget ret51v (srtv.getD ((v57).toNat) z3)).getD ([] : Lqg)).getD (v77).toNat zqc).2))
abbrev e6b15 (srtv : List Lqf) := sI 56 (srtv.length : Int)
abbrev e6b16 := sp 120 30000
abbrev e6b17 (srtv : List Lqf) := hA 5006 58 t3 srtv
abbrev e6b18 (g : TG) (w : LI) (rv : Lqc) := hB 27 [.pI g.1, .pI g.2.1, .pI g.2.2.1, .p (.sl tR) g.2.2.2, .pS w, .p (.mp (.pr tI tI) (.int .u32)) rv, .own 25]
abbrev e6b19 (g : TG) (w : LI) (ret24v : Lqc) := hB 27 [.pI g.1, .pI g.2.1, .pI g.2.2.1, .p (.sl tR) g.2.2.2, .pS w, .p (.mp (.pr tI tI) (.int .u32)) ret24v, .own 25]
abbrev e6b20 := sp 0 70000
abbrev e6b21 := s1 8 (.own 39)
abbrev e6b22 := sp 4 4
abbrev e6b23 := s1 55 (.own 5006)
abbrev e6b24 (l6283 : LL) := hA 6283 25 (.sl tI) l6283
abbrev e6b25 (ret51v : Lqb) (srtv : List Lqf) (v57 v77 : Int) := hB 16 [.pI ((((mget ret51v (srtv.getD ((v57).toNat) z3)).getD ([] : Lqg)).getD (v77).toNat zqc).1), .p (.sl t3) ((((mget ret51v (srtv.getD ((v57).toNat) z3)).getD ([] : Lqg)).getD (v77).toNat zqc).2)]
abbrev e6b26 (g : TG) (w : LI) := hB 8 [.pI (g.1 + g.2.2.1), .pI (0 : Int), .pI (w.length : Int)]
abbrev e6b27 (g : TG) := sA 20 [.pI g.1, .pI g.2.1, .pI g.2.2.1, .p (.sl tR) g.2.2.2]
abbrev e6b28 (l6220 : (List Lqe)) (srtv : List Lqf) (v57 : Int) (srtv2 : List LI) := hA 112 36 tqa (l6220 ++ [((srtv.getD ((v57).toNat) z3).1, ((srtv.getD ((v57).toNat) z3).2.1, ((srtv.getD ((v57).toNat) z3).2.2, srtv2)))])
abbrev e6b29 := s1 6 (.own 5006)
abbrev e6b30 (ret51v : Lqb) (l24 : (List Nat)) (j25 : Nat) : Nat × Path × Con := (24, [], .mit (.own 70001) ret51v.length (l24 ++ [j25]))
abbrev e6b31 (g : TG) (w : LI) (ret24v : Lqc) := sA 26 [.pI g.1, .pI g.2.1, .pI g.2.2.1, .p (.sl tR) g.2.2.2, .pS w, .p (.mp (.pr tI tI) (.int .u32)) ret24v, .own 25]
abbrev e6b32 := sp 11 11
abbrev e6b33 (srtv : List Lqf) (v57 : Int) := hB 14 [.pI ((srtv.getD ((v57).toNat) z3).1), .pI ((srtv.getD ((v57).toNat) z3).2.1), .pI ((srtv.getD ((v57).toNat) z3).2.2), .own 102]
abbrev e6b34 (srtv : List Lqf) (v57 : Int) := hB 14 [.pI ((srtv.getD ((v57).toNat) z3).1), .pI ((srtv.getD ((v57).toNat) z3).2.1), .pI ((srtv.getD ((v57).toNat) z3).2.2), .nils]
abbrev e6b35 (srtv : List Lqf) (v57 : Int) := hB 13 [.pI ((srtv.getD ((v57).toNat) z3).1), .pI ((srtv.getD ((v57).toNat) z3).2.1), .pI ((srtv.getD ((v57).toNat) z3).2.2)]
abbrev e6b36 (w : LI) := s1 1 (.pS w)
abbrev e6b37 : Nat × Path × Con := (70001, [], .dict t3 (.sl (.pr tI (.sl t3))) ([] : List (Lqf × Lqg)))
abbrev e6b38 := sp 14 14
abbrev e6b39 (ret24v : Lqc) := s1 24 (.p (.mp (.pr tI tI) (.int .u32)) ret24v)
abbrev e6b40 (g : TG) (w : LI) := sA 50 [.pI (g.1 + g.2.2.1), .pI (0 : Int), .pI (w.length : Int)]
abbrev e6b41 (g : TG) := sA 22 [.pI g.1, .pI g.2.1, .pI g.2.2.1, .p (.sl tR) g.2.2.2]
abbrev e6b42 (keys : LN) := hA 5006 58 t3 keys
abbrev e6b43 : Nat × Path × Con := (39, [], .dict t3 tI ([] : List (Lqf × Int)))
abbrev e6b44 := s1 17 (.own 83)
abbrev e6b45 := s1 40 (.own 5006)
abbrev e6bn0 : List Nat := [4, 11, 14, 39, 5006, 6220, 6283, 30000, 70000, 70001]
abbrev e6bn1 : List Nat := [0, 4, 8, 11, 14, 55, 56, 57, 75, 76, 77, 120]
abbrev e6bn2 : List Nat := [4, 11, 39, 5006, 6220, 30000, 70000, 70001]
-- coppicer/thicket.Build
def VC6_k2 (K : Lqa × Int → Prop) (v5 l4 : Int) (l6080 : (List Lqe)) : Prop :=
  K ((l6080, l4), v5)
def VC6_k5 (g : TG) (w : LI) (K : Lqa × Int → Prop) (number : Lqh) (l6220 : (List Lqe)) : Prop :=
  VC6_k2 K (0 : Int) ((mget number ((g.1 + g.2.2.1), ((0 : Int), (w.length : Int)))).getD (0 : Int)) l6220
def VC6_k6 (K : Lqa × Int → Prop) (srtv : List Lqf) (v57 : Int) (l6220 : (List Lqe)) (X1 : Int × (List Lqe) → Prop) (l6283 : LL) : Prop :=
  SortVC l6283 (fun (x : LI × LI) (K : Int → Prop) => VC40 x.1 x.2 K) (fun (srtv2 : List LI) => (roomN (l6220.length + [((srtv.getD ((v57).toNat) z3).1, ((srtv.getD ((v57).toNat) z3).2.1, ((srtv.getD ((v57).toNat) z3).2.2, srtv2)))].length) ∧ (InR (v57 + (1 : Int)) ∧ X1 ((v57 + (1 : Int)), (l6220 ++ [((srtv.getD ((v57).toNat) z3).1, ((srtv.getD ((v57).toNat) z3).2.1, ((srtv.getD ((v57).toNat) z3).2.2, srtv2)))])))))
def VC6_k7 (v77 : Int) (l6283 : LL) (X2 : Int × LL → Prop) (row : LI) : Prop :=
  (roomN (l6283.length + [row].length) ∧ (InR (v77 + (1 : Int)) ∧ X2 ((v77 + (1 : Int)), (l6283 ++ [row]))))
def VC6_l3 (ret51v : Lqb) (srtv : List Lqf) (number : Lqh) (v57 v77 : Int) (l6283 : LL) (X2 : Int × LL → Prop) (v87 : Int) (row : LI) (X3 : Int × LI → Prop) : Prop :=
  (((decide (v87 < (((((mget ret51v (srtv.getD ((v57).toNat) z3)).getD ([] : Lqg)).getD (v77).toNat ((0 : Int), ([] : LN))).2).length : Int))) = true → (inIdx v87 ((((mget ret51v (srtv.getD ((v57).toNat) z3)).getD ([] : Lqg)).getD (v77).toNat ((0 : Int), ([] : LN))).2).length ∧ (roomN (row.length + [((mget number (((((mget ret51v (srtv.getD ((v57).toNat) z3)).getD ([] : Lqg)).getD (v77).toNat ((0 : Int), ([] : LN))).2).getD (v87).toNat z3)).getD (0 : Int))].length) ∧ (InR (v87 + (1 : Int)) ∧ X3 ((v87 + (1 : Int)), (row ++ [((mget number (((((mget ret51v (srtv.getD ((v57).toNat) z3)).getD ([] : Lqg)).getD (v77).toNat ((0 : Int), ([] : LN))).2).getD (v87).toNat z3)).getD (0 : Int))])))))) ∧ ((decide (v87 < (((((mget ret51v (srtv.getD ((v57).toNat) z3)).getD ([] : Lqg)).getD (v77).toNat ((0 : Int), ([] : LN))).2).length : Int))) = false → VC6_k7 v77 l6283 X2 row))
def VC6_l2 (K : Lqa × Int → Prop) (ret51v : Lqb) (srtv : List Lqf) (number : Lqh) (v57 : Int) (l6220 : (List Lqe)) (X1 : Int × (List Lqe) → Prop) (v77 : Int) (l6283 : LL) (X2 : Int × LL → Prop) : Prop :=
  (((decide (v77 < (((mget ret51v (srtv.getD ((v57).toNat) z3)).getD ([] : Lqg)).length : Int))) = true → (inIdx v77 ((mget ret51v (srtv.getD ((v57).toNat) z3)).getD ([] : Lqg)).length ∧ Loop (σ := Int × LI) (fun s X => VC6_l3 ret51v srtv number v57 v77 l6283 X2 s.1 s.2 X) ((0 : Int), [(((mget ret51v (srtv.getD ((v57).toNat) z3)).getD ([] : Lqg)).getD (v77).toNat ((0 : Int), ([] : LN))).1]))) ∧ ((decide (v77 < (((mget ret51v (srtv.getD ((v57).toNat) z3)).getD ([] : Lqg)).length : Int))) = false → VC6_k6 K srtv v57 l6220 X1 l6283))
def VC6_l1 (g : TG) (w : LI) (K : Lqa × Int → Prop) (ret51v : Lqb) (srtv : List Lqf) (number : Lqh) (v57 : Int) (l6220 : (List Lqe)) (X1 : Int × (List Lqe) → Prop) : Prop :=
  (((decide (v57 < (srtv.length : Int))) = true → (inIdx v57 srtv.length ∧ Loop (σ := Int × LL) (fun s X => VC6_l2 K ret51v srtv number v57 l6220 X1 s.1 s.2 X) ((0 : Int), ([] : List LI)))) ∧ ((decide (v57 < (srtv.length : Int))) = false → VC6_k5 g w K number l6220))
def VC6_k4 (g : TG) (w : LI) (K : Lqa × Int → Prop) (ret51v : Lqb) (srtv : List Lqf) (number : Lqh) : Prop :=
  Loop (σ := Int × (List Lqe)) (fun s X => VC6_l1 g w K ret51v srtv number s.1 s.2 X) ((0 : Int), ([] : List Lqe))
def VC6_l4 (g : TG) (w : LI) (K : Lqa × Int → Prop) (ret51v : Lqb) (srtv : List Lqf) (v42 : Int) (number : Lqh) (X4 : Int × Lqh → Prop) : Prop :=
  (((decide (v42 < (srtv.length : Int))) = true → (inIdx v42 srtv.length ∧ (InR (v42 + (1 : Int)) ∧ X4 ((v42 + (1 : Int)), (mset number (srtv.getD ((v42).toNat) z3) v42))))) ∧ ((decide (v42 < (srtv.length : Int))) = false → VC6_k4 g w K ret51v srtv number))
def VC6_k3 (g : TG) (w : LI) (K : Lqa × Int → Prop) (ret51v : Lqb) (keys : LN) : Prop :=
  (((decide ((200 : Int) < (keys.length : Int))) = true → VC6_k2 K (1 : Int) (0 : Int) ([] : List Lqe)) ∧ ((decide ((200 : Int) < (keys.length : Int))) = false → SortVC keys (fun (x : Lqf × Lqf) (K : Int → Prop) => VC36 x.1 x.2 K) (fun (srtv : List Lqf) => Loop (σ := Int × Lqh) (fun s X => VC6_l4 g w K ret51v srtv s.1 s.2 X) ((0 : Int), ([] : List (Lqf × Int))))))
def VC6_l5 (g : TG) (w : LI) (K : Lqa × Int → Prop) (ret51v : Lqb) (l24 : (List Nat)) (keys : LN) (X5 : (List Nat) × LN → Prop) : Prop :=
  ((∀ (j25 : Nat), j25 < ret51v.length → j25 ∉ l24 → (j25 < ret51v.length ∧ (roomN (keys.length + [(ret51v.getD j25 (z3, ([] : Lqg))).1].length) ∧ X5 (l24 ++ [j25], (keys ++ [(ret51v.getD j25 (z3, ([] : Lqg))).1]))))) ∧ ((∀ (j25 : Nat), j25 < ret51v.length → j25 ∈ l24) → VC6_k3 g w K ret51v keys))
def VC6_k1 (g : TG) (w : LI) (K : Lqa × Int → Prop) (rv : Lqc) : Prop :=
  (InR (g.1 + g.2.2.1) ∧ VC15 ((mget rv ((0 : Int), (w.length : Int))).getD (0 : Int)) g.2.2.1 (fun (ret46v : Bool) => (((!ret46v) = true → K ((([] : (List Lqe)), (0 : Int)), (5 : Int))) ∧ ((!ret46v) = false → VCcr16 g.1 g.2.1 g.2.2.1 g.2.2.2 w rv (g.1 + g.2.2.1) (0 : Int) (w.length : Int) ([] : List (Lqf × Lqg)) (fun (ret51v : Lqb) => Loop (σ := (List Nat) × LN) (fun s X => VC6_l5 g w K ret51v s.1 s.2 X) (([] : List Nat), ([] : List Lqf)))))))
def VC6 (g : TG) (w : LI) (K : Lqa × Int → Prop) : Prop :=
  VC12 g w (fun (ret11v : Int) => (((!decide (ret11v = (0 : Int))) = true → K ((([] : (List Lqe)), (0 : Int)), ret11v)) ∧ ((!decide (ret11v = (0 : Int))) = false → VC13 g (fun (ret17v : Bool) => (((!ret17v) = true → K ((([] : (List Lqe)), (0 : Int)), (3 : Int))) ∧ ((!ret17v) = false → VC14 g w (fun (ret24v : Lqc) => VC6_k1 g w K ret24v)))))))
abbrev bax0 (ret51v : Lqb) (srtv : List Lqf) (v57 v77 : Int) := ((mget ret51v (srtv.getD ((v57).toNat) z3)).getD ([] : Lqg)).getD (v77).toNat zqc
abbrev bax1 (number : Lqh) (g : TG) (w : LI) := (mget number ((g.1 + g.2.2.1), ((0 : Int), (w.length : Int)))).getD (0 : Int)
abbrev bax2 (ret51v : Lqb) (j25 : Nat) := ret51v.getD j25 (z3, ([] : Lqg))
abbrev bax3 (srtv : List Lqf) (v57 : Int) (srtv2 : List LI) := ((srtv.getD ((v57).toNat) z3).1, ((srtv.getD ((v57).toNat) z3).2.1, ((srtv.getD ((v57).toNat) z3).2.2, srtv2)))
theorem link6 (g : TG) (w : LI) (K : Lqa × Int → Prop) (h : VC6 g w K) : ACalls Try.prog 6 [toV1 tG g, toV1 (.sl tI) w] (fun res => ∃ y, res = (fun y => [toV1 tqb y.1, toV1 tI y.2]) y ∧ K y) := by
 refine acalls_of_aw [tqb, tI] [.c 4 28, .t 5] Try.func6 rfl rfl rfl ?_
 unfold VC6 at h
 refine qS 3 ⟨57, [e6b36 w, sp 2 2, e6b22], [e6b8 g, e6b5]⟩ (aw_seq (sr (qT 2 ⟨57, [e6b36 w, sp 2 2, e6b22, sA 9 [.pI g.1, .pI g.2.1, .pI g.2.2.1, .p (.sl tR) g.2.2.2], s1 10 (.pS w)], [e6b8 g, e6b5]⟩ (qK 11 [.d tG, .d (.sl tI)] (fun ret11v => ⟨57, [e6b36 w, sp 2 2, e6b22, sI 11 ret11v], [e6b8 g, e6b5]⟩) Try.call12 (link12 g w _ h) fun ret11v h => ?_))))
 refine qT 1 ⟨57, [e6b36 w, sp 2 2, e6b22, sI 6 ret11v], [e6b8 g, e6b5]⟩ (nsr (qT 2 ⟨57, [e6b36 w, sp 2 2, e6b22, sI 6 ret11v, sB 13 (!decide (ret11v = (0 : Int)))], [e6b8 g, e6b5]⟩ (nn (aw_cond (b := (!decide (ret11v = (0 : Int)))) (by kernel_rfl) (fun hb => ?_) (fun hb => ?_)))))
 ·have h := h.1 hb
  exact qS 4 ⟨57, [e6b22, sI 5 ret11v], [e6b5]⟩ (aw_ret (thenQ_r (qE 2 h)))
 ·have h := h.2 hb
  refine aw_skip (thenQ_n (aw_seq (sr (qT 1 ⟨57, [e6b36 w, sp 2 2, e6b22, sA 16 [.pI g.1, .pI g.2.1, .pI g.2.2.1, .p (.sl tR) g.2.2.2]], [e6b8 g, e6b5]⟩ (qK 17 [.d tG] (fun ret17v => ⟨57, [e6b36 w, sp 2 2, e6b22, sB 17 ret17v], [e6b8 g, e6b5]⟩) Try.call13 (link13 g _ h) fun ret17v h => ?_)))))
  refine qT 1 ⟨57, [e6b36 w, sp 2 2, e6b22, sB 18 (!ret17v)], [e6b8 g, e6b5]⟩ (nn (aw_cond (b := (!ret17v)) (by kernel_rfl) (fun hb => ?_) (fun hb => ?_)))
  ·have h := h.1 hb
   exact qS 3 ⟨57, [e6b22, sI 5 (3 : Int)], [e6b5]⟩ (aw_ret (thenQ_r (qE 2 h)))
  ·have h := h.2 hb
   refine aw_skip (thenQ_n (aw_seq (withJoin (σ := Lqc) (fun s => ⟨57, [e6b36 w, sp 2 2, e6b22, sp 7 27], [e6b8 g, e6b5, e6b11, hB 27 [.pI g.1, .pI g.2.1, .pI g.2.2.1, .p (.sl tR) g.2.2.2, .pS w, .p (.mp (.pr tI tI) (.int .u32)) s, .own 25]]⟩) (fun s => VC6_k1 g w K s) (fun rv h => ?_) (fun rest7 => ?_))))
   ·have h : VC6_k1 g w K rv := h
    unfold VC6_k1 at h
    refine thenQ_n (sr (qA 11 4 6 ⟨57, [sp 2 2, e6b22, sp 7 27, sp 8 8], [e6b8 g, e6b5, e6b26 g w, e6b11, e6b18 g w rv]⟩ h fun h => nn (aw_seq (aw_seq (awd_begin [] (by kernel_rfl) ?_)))))
    refine qDT 9 [0, 1, 2, 3, 4, 5, 6, 7, 8] [8, 7, 6, 5, 4, 3, 2, 1, 0] ⟨57, [e6b22, sp 7 27, sp 8 8, s1 43 (.pW ((mget rv ((0 : Int), (w.length : Int))).getD (0 : Int))), sI 45 g.2.2.1], [e6b5, e6b26 g w, e6b11, e6b18 g w rv]⟩ (awd_one (i := 9) (by kernel_rfl) ?_)
    refine dcq (d := 46) [.d (.int .u32), .d tI] (fun ret46v => ⟨57, [e6b22, sp 7 27, sp 8 8, sB 46 ret46v], [e6b5, e6b26 g w, e6b11, e6b18 g w rv]⟩) rfl (by kernel_rfl) Try.call15 (fun _ => by kernel_rfl) (link15 ((mget rv ((0 : Int), (w.length : Int))).getD (0 : Int)) g.2.2.1 _ h) (fun ret46v h => (qDT 1 [10] [10, 9, 8, 7, 6, 5, 4, 3, 2, 1, 0] ⟨57, [e6b22, sp 7 27, sp 8 8, sB 47 (!ret46v)], [e6b5, e6b26 g w, e6b11, e6b18 g w rv]⟩ (awd_done (by kernel_rfl) ?_)))
    refine thenQ_n (aw_cond (b := (!ret46v)) (by kernel_rfl) (fun hb => ?_) (fun hb => ?_))
    ·have h := h.1 hb
     exact qS 3 ⟨57, [e6b22, sI 5 (5 : Int)], [e6b5]⟩ (aw_ret (thenQ_r (qE 2 h)))
    ·have h := h.2 hb
     refine aw_skip (thenQ_n (sr (qT 2 ⟨57, [e6b22, sp 7 27, sp 8 8, sp 49 27, e6b40 g w], [e6b5, e6b26 g w, e6b11, e6b18 g w rv]⟩ (qW [.ren 27 70000, .ren 25 70001] ⟨57, [e6b22, sp 7 70000, sp 8 8, sp 49 70000, e6b40 g w], [e6b5, e6b26 g w, e6b37, e6b0 g w rv]⟩ (awl_lcall (σ := Lqb) [70000, 70001] [70000] [.c (.ptr 70000 0), .agg [.pI (g.1 + g.2.2.1), .pI (0 : Int), .pI (w.length : Int)]] [] (fun ret51v => .tup []) (fun ret51v => [e6b0 g w rv, e6b1 ret51v]) (_) [e6b0 g w rv, e6b37] (fun ret51v => ⟨57, [(51, [], .tup []), e6b22, sp 7 70000, sp 8 8, sp 49 70000, e6b40 g w], [e6b0 g w rv, e6b1 ret51v, e6b5, e6b26 g w]⟩) rfl rfl (by kernel_rfl) rfl (by kernel_rfl) Try.call16 (by kernel_rfl) (by kernel_rfl) (by kernel_rfl) (fun _ _ => rfl) (fun _ => by kernel_rfl) (linkcr16 g.1 g.2.1 g.2.2.1 g.2.2.2 w rv (g.1 + g.2.2.1) (0 : Int) (w.length : Int) ([] : List (Lqf × Lqg)) _ h) (fun ret51v h => ?_))))))
     refine qL ⟨57, [e6b22, sp 7 70000, sp 8 8], [e6b5, e6b26 g w, e6b0 g w rv, e6b1 ret51v]⟩ (nsr (qT 2 ⟨57, [e6b22, sp 52 70000, sA 53 [.pI (g.1 + g.2.2.1), .pI (0 : Int), .pI (w.length : Int)]], [e6b5, e6b0 g w rv, e6b1 ret51v]⟩ (qW [.ren 4 30000] ⟨57, [sp 4 30000, sp 52 70000, sA 53 [.pI (g.1 + g.2.2.1), .pI (0 : Int), .pI (w.length : Int)]], [e6b7, e6b0 g w rv, e6b1 ret51v]⟩ (awl_inlr [.c 4 28, .t 5] [30000, 70000, 70001] [.c (.ptr 70000 0), .agg [.pI (g.1 + g.2.2.1), .pI (0 : Int), .pI (w.length : Int)]] [] rfl rfl (by kernel_rfl) rfl (by kernel_rfl) Try.call17 (by kernel_rfl) (by kernel_rfl) Try.func17 rfl rfl (by kernel_rfl) ?_))))
     refine qV [] ⟨116, [e6b20, sA 1 [.pI (g.1 + g.2.2.1), .pI (0 : Int), .pI (w.length : Int)], e6b16, sp 168 70000, sA 169 [.pI (g.1 + g.2.2.1), .pI (0 : Int), .pI (w.length : Int)]], [e6b7, e6b0 g w rv, e6b1 ret51v]⟩ (withJoinR (σ := Int × Int × (List Lqe)) (fun s => ⟨116, [e6b22, sI 5 s.1, e6b16], [hB 4 [.own 6080, .pI s.2.1], hA 6080 36 tqa s.2.2, e6b7]⟩) (fun s => VC6_k2 K s.1 s.2.1 s.2.2) (fun s h => ?_) (fun rest1 => ?_))
     ·obtain ⟨v5, l4, l6080⟩ := s
      have h : VC6_k2 K v5 l4 l6080 := h
      unfold VC6_k2 at h
      refine inlR_n (ob := (True ∧ True ∧ True)) (.tup [.agg [.own 6080, .pI l4], .c (.pI v5)]) (by kernel_rfl) ⟨trivial, trivial, trivial⟩ rfl ?_
      exact qL ⟨57, [sp 4 30000, (54, [], .tup [.agg [.own 6080, .pI l4], .c (.pI v5)])], [hA 6080 36 tqa l6080, e6b7]⟩ (qT 4 ⟨57, [sp 4 30000, sI 5 v5], [hA 6080 36 tqa l6080, hB 30000 [.own 6080, .pI l4]]⟩ (nn (qV [.freeze 6080] ⟨57, [sp 4 30000, sI 5 v5], [hB 30000 [.p (.sl tqa) l6080, .pI l4]]⟩ (aw_ret (qE 2 h)))))
     ·refine sr (qT 3 ⟨116, [e6b20, sp 3 3, e6b22, e6b16], [e6b10 g w, e6b5, e6b7, e6b0 g w rv, e6b1 ret51v]⟩ (nsr (qT 1 ⟨116, [e6b20, sp 3 3, e6b22, s1 6 (.nils), e6b16], [e6b10 g w, e6b5, e6b7, e6b0 g w rv, e6b1 ret51v]⟩ (nn (aw_seq (sr (qT 4 ⟨116, [e6b20, sp 3 3, e6b22, s1 6 (.nils), s1 23 (.own 70001), e6b16], [e6b10 g w, e6b5, e6b7, e6b0 g w rv, e6b1 ret51v]⟩ (awl_range (tt := 52) (kk := 58) (vv := 83) (t := 23) (d := 24) (q := 70001) (r := 24) (k := t3) (v := (.sl (.pr tI (.sl t3)))) (l := ret51v) rfl rfl rfl (by kernel_rfl) (by kernel_rfl) (by kernel_rfl) (by kernel_rfl) (qL ⟨116, [e6b20, sp 3 3, e6b22, s1 6 (.nils), sp 24 24, e6b16], [e6b10 g w, e6b5, (24, [], .mit (.own 70001) ret51v.length ([] : List Nat)), e6b7, e6b0 g w rv, e6b1 ret51v]⟩ (nn (withJoin (σ := LN) (fun s => ⟨116, [e6b20, sp 3 3, e6b22, e6b29, e6b16], [e6b10 g w, e6b5, hA 5006 58 t3 s, e6b7, e6b0 g w rv, e6b1 ret51v]⟩) (fun s => VC6_k3 g w K ret51v s) (fun keys h => ?_) (fun rest6 => ?_))))))))))))
      ·have h : VC6_k3 g w K ret51v keys := h
       unfold VC6_k3 at h
       refine thenQ_n (aw_seq (qS 3 ⟨116, [e6b20, sp 3 3, e6b22, e6b29, sB 35 (decide ((200 : Int) < (keys.length : Int))), e6b16], [e6b10 g w, e6b5, e6b42 keys, e6b7, e6b0 g w rv, e6b1 ret51v]⟩ (qI h (fun h => ?_) fun h => ?_)))
       ·exact qS 3 ⟨116, [e6b22, sI 5 (1 : Int), e6b16], [e6b5, e6b7]⟩ (qV [.nilOwnB 4 0 6080 36 tqa, .prune [4, 5, 120] [4, 6080, 30000]] ⟨116, [e6b22, sI 5 (1 : Int), e6b16], [hB 4 [.own 6080, .pI (0 : Int)], hA 6080 36 tqa ([] : List Lqe), e6b7]⟩ (aw_ret (thenQ_r (rest1 ((1 : Int), (0 : Int), ([] : List Lqe)) h))))
       ·refine aw_skip (thenQ_n (sr (qT 1 ⟨116, [e6b20, sp 3 3, e6b22, e6b29, s1 37 (.own 5006), e6b16], [e6b10 g w, e6b5, e6b42 keys, e6b7, e6b0 g w rv, e6b1 ret51v]⟩ ?_)))
        refine awl_lcall (σ := List Lqf) [5006] [5006] [.c (.own 5006), .c (.fn 36 [])] [] (fun _ => .tup []) (fun srtv => [(5006, [], .arr 58 t3 srtv)]) (fun (srtv : List Lqf) => Loop (σ := Int × Lqh) (fun s X => VC6_l4 g w K ret51v srtv s.1 s.2 X) ((0 : Int), ([] : List (Lqf × Int)))) [(5006, [], .arr 58 t3 keys)] (fun srtv => ⟨116, [(38, [], .tup []), e6b20, sp 3 3, e6b22, e6b29, s1 37 (.own 5006), e6b16], [e6b17 srtv, e6b10 g w, e6b5, e6b7, e6b0 g w rv, e6b1 ret51v]⟩) rfl rfl (by kernel_rfl) rfl (by kernel_rfl) Try.call35 (by kernel_rfl) (by kernel_rfl) (by kernel_rfl) (fun _ _ => rfl) (fun _ => by kernel_rfl) (lcalls_sortKF Try.sort35 t3 rfl (by decide) Try.sort35a Try.sort35z 58 5006 _ _ (⟨Try.call36, fun x K h => link36 x.1 x.2 K h⟩) h) (fun srtv h => ?_)
        refine qL ⟨116, [e6b20, sp 3 3, e6b22, e6b29, e6b16], [e6b10 g w, e6b5, e6b17 srtv, e6b7, e6b0 g w rv, e6b1 ret51v]⟩ (nsr (qT 2 ⟨116, [e6b20, sp 3 3, e6b22, e6b29, e6b21, e6b16], [e6b10 g w, e6b5, e6b43, e6b17 srtv, e6b7, e6b0 g w rv, e6b1 ret51v]⟩ (nn (aw_seq (qS 3 ⟨116, [e6b20, sp 3 3, e6b22, e6b29, e6b21, e6b45, sI 41 (srtv.length : Int), sI 42 (0 : Int), e6b16], [e6b10 g w, e6b5, e6b43, e6b17 srtv, e6b7, e6b0 g w rv, e6b1 ret51v]⟩ (withJoin (σ := Lqh) (fun s => ⟨116, [e6b20, sp 3 3, e6b22, e6b29, e6b21, e6b16], [e6b10 g w, e6b5, (39, [], .dict t3 tI s), e6b17 srtv, e6b7, e6b0 g w rv, e6b1 ret51v]⟩) (fun s => VC6_k4 g w K ret51v srtv s) (fun number h => ?_) (fun rest5 => ?_)))))))
        ·have h : VC6_k4 g w K ret51v srtv number := h
         unfold VC6_k4 at h
         refine thenQ_n (qS 6 ⟨116, [e6b20, e6b22, e6b29, e6b21, e6b32, e6b16], [e6b5, hB 11 [.nils, .pI (bax1 number g w)], e6b12 number, e6b17 srtv, e6b7, e6b0 g w rv, e6b1 ret51v]⟩ (aw_seq (qS 3 ⟨116, [e6b20, e6b22, e6b21, e6b32, e6b23, e6b15 srtv, sI 57 (0 : Int), e6b16], [e6b5, hB 11 [.nils, .pI (bax1 number g w)], e6b12 number, e6b17 srtv, e6b7, e6b0 g w rv, e6b1 ret51v]⟩ (withJoin (σ := (List Lqe)) (fun s => ⟨116, [e6b22, e6b32, e6b16], [e6b5, e6b2 number g w, hA 6220 36 tqa s, e6b7]⟩) (fun s => VC6_k5 g w K number s) (fun l6220 h => ?_) (fun rest2 => ?_)))))
         ·have h : VC6_k5 g w K number l6220 := h
          unfold VC6_k5 at h
          exact thenQ_n (qS 3 ⟨116, [e6b22, sI 5 (0 : Int), e6b16], [hB 4 [.own 6220, .pI (bax1 number g w)], e6b3 l6220, e6b7]⟩ (qV [.ren 6220 26220, .ren 26220 6080] ⟨116, [e6b22, sI 5 (0 : Int), e6b16], [hB 4 [.own 6080, .pI (bax1 number g w)], hA 6080 36 tqa l6220, e6b7]⟩ (aw_ret (rest1 ((0 : Int), (bax1 number g w), l6220) h))))
         ·refine aw_block (qV [.nilOwnB 11 0 6220 36 tqa, .prune [0, 4, 8, 11, 55, 56, 57, 120] e6bn2] ⟨116, [e6b20, e6b22, e6b21, e6b32, e6b23, e6b15 srtv, sI 57 (0 : Int), e6b16], [e6b5, e6b2 number g w, e6b12 number, e6b17 srtv, hA 6220 36 tqa ([] : List Lqe), e6b7, e6b0 g w rv, e6b1 ret51v]⟩ (aw_loop (σ := Int × (List Lqe)) (fun s => ⟨116, [e6b20, e6b22, e6b21, e6b32, e6b23, e6b15 srtv, sI 57 s.1, e6b16], [e6b5, e6b2 number g w, e6b12 number, e6b17 srtv, hA 6220 36 tqa s.2, e6b7, e6b0 g w rv, e6b1 ret51v]⟩) (fun s X => VC6_l1 g w K ret51v srtv number s.1 s.2 X) (s0 := ((0 : Int), ([] : List Lqe))) (fun s X1 h => ?_) h))
          obtain ⟨v57, l6220⟩ := s
          have h : VC6_l1 g w K ret51v srtv number v57 l6220 X1 := h
          unfold VC6_l1 at h
          refine qS 1 ⟨116, [e6b20, e6b22, e6b21, e6b32, e6b23, e6b15 srtv, sI 57 v57, sB 58 (decide (v57 < (srtv.length : Int))), e6b16], [e6b5, e6b2 number g w, e6b12 number, e6b17 srtv, e6b3 l6220, e6b7, e6b0 g w rv, e6b1 ret51v]⟩ (aw_seq (qI h (fun h => ?_) fun h => ?_))
          ·refine aw_skip (thenQ_n (aw_seq (aw_block (sr (qA 4 0 3 ⟨116, [e6b20, e6b22, e6b21, e6b32, sp 13 13, e6b23, e6b15 srtv, sI 57 v57, e6b16], [e6b5, e6b2 number g w, e6b35 srtv v57, e6b12 number, e6b17 srtv, e6b3 l6220, e6b7, e6b0 g w rv, e6b1 ret51v]⟩ h fun h => nsr (qT 11 ⟨116, [e6b20, e6b22, e6b21, e6b32, sp 13 13, e6b38, e6b23, e6b15 srtv, sI 57 v57, e6b16], [e6b5, e6b2 number g w, e6b35 srtv v57, e6b34 srtv v57, e6b12 number, e6b17 srtv, e6b3 l6220, e6b7, e6b0 g w rv, e6b1 ret51v]⟩ (nn (aw_seq (aw_seq (awd_begin [] (by kernel_rfl) ?_))))))))))
           refine qDT 8 [0, 1, 2, 3, 4, 5, 6, 7] [7, 6, 5, 4, 3, 2, 1, 0] ⟨116, [e6b20, e6b22, e6b21, e6b32, e6b38, e6b23, e6b15 srtv, sI 57 v57, e6b6 ret51v srtv v57, e6b9 ret51v srtv v57, sI 77 (0 : Int), e6b16], [e6b5, e6b2 number g w, e6b34 srtv v57, e6b12 number, e6b17 srtv, e6b3 l6220, e6b7, e6b0 g w rv, e6b1 ret51v]⟩ (awd_done (by kernel_rfl) ?_)
           refine thenQ_n (withJoin (σ := LL) (fun s => ⟨116, [e6b20, e6b22, e6b21, e6b32, e6b38, e6b23, e6b15 srtv, sI 57 v57, e6b16], [e6b5, e6b2 number g w, e6b4 srtv v57, e6b12 number, e6b17 srtv, e6b3 l6220, hA 6283 25 (.sl tI) s, e6b7, e6b0 g w rv, e6b1 ret51v]⟩) (fun s => VC6_k6 K srtv v57 l6220 X1 s) (fun l6283 h => ?_) (fun rest3 => ?_))
           ·have h : VC6_k6 K srtv v57 l6220 X1 l6283 := h
            unfold VC6_k6 at h
            refine thenQ_n (sr (qT 2 ⟨116, [e6b20, e6b22, e6b21, e6b32, e6b38, e6b23, e6b15 srtv, sI 57 v57, s1 106 (.own 6283), e6b16], [e6b5, e6b2 number g w, e6b4 srtv v57, e6b12 number, e6b17 srtv, e6b3 l6220, e6b24 l6283, e6b7, e6b0 g w rv, e6b1 ret51v]⟩ (awl_lcall (σ := List LI) [6283] [6283] [.c (.own 6283), .c (.fn 40 [])] [] (fun _ => .tup []) (fun srtv2 => [(6283, [], .arr 25 (.sl tI) srtv2)]) (fun (srtv2 : List LI) => (roomN (l6220.length + [(bax3 srtv v57 srtv2)].length) ∧ (InR (v57 + (1 : Int)) ∧ X1 ((v57 + (1 : Int)), (l6220 ++ [(bax3 srtv v57 srtv2)]))))) [(6283, [], .arr 25 (.sl tI) l6283)] (fun srtv2 => ⟨116, [(107, [], .tup []), e6b20, e6b22, e6b21, e6b32, e6b38, e6b23, e6b15 srtv, sI 57 v57, s1 106 (.own 6283), e6b16], [hA 6283 25 (.sl tI) srtv2, e6b5, e6b2 number g w, e6b4 srtv v57, e6b12 number, e6b17 srtv, e6b3 l6220, e6b7, e6b0 g w rv, e6b1 ret51v]⟩) rfl rfl (by kernel_rfl) rfl (by kernel_rfl) Try.call39 (by kernel_rfl) (by kernel_rfl) (by kernel_rfl) (fun _ _ => rfl) (fun _ => by kernel_rfl) (lcalls_sortF Try.sort39 (.sl tI) rfl 25 6283 _ _ (⟨Try.call40, fun x K h => link40 x.1 x.2 K h⟩) h) (fun srtv2 h => ?_))))
            exact qL ⟨116, [e6b20, e6b22, e6b21, e6b32, e6b38, e6b23, e6b15 srtv, sI 57 v57, e6b16], [e6b5, e6b2 number g w, e6b4 srtv v57, e6b12 number, e6b17 srtv, e6b3 l6220, hA 6283 25 (.sl tI) srtv2, e6b7, e6b0 g w rv, e6b1 ret51v]⟩ (nn (aw_region (qT 3 ⟨116, [e6b20, e6b22, e6b21, e6b32, e6b23, e6b15 srtv, sI 57 v57, s1 109 (.own 6220), sA 110 [.pI ((srtv.getD ((v57).toNat) z3).1), .pI ((srtv.getD ((v57).toNat) z3).2.1), .pI ((srtv.getD ((v57).toNat) z3).2.2), .own 6283], e6b16], [e6b5, e6b2 number g w, e6b12 number, e6b17 srtv, e6b3 l6220, hA 6283 25 (.sl tI) srtv2, e6b7, e6b0 g w rv, e6b1 ret51v]⟩ (qW [.freeze 6283] ⟨116, [e6b20, e6b22, e6b21, e6b32, e6b23, e6b15 srtv, sI 57 v57, s1 109 (.own 6220), sA 110 [.pI ((srtv.getD ((v57).toNat) z3).1), .pI ((srtv.getD ((v57).toNat) z3).2.1), .pI ((srtv.getD ((v57).toNat) z3).2.2), .p (.sl (.sl tI)) srtv2], e6b16], [e6b5, e6b2 number g w, e6b12 number, e6b17 srtv, e6b3 l6220, e6b7, e6b0 g w rv, e6b1 ret51v]⟩ (qA 4 1 2 ⟨116, [e6b20, e6b22, e6b21, e6b32, e6b23, e6b15 srtv, sI 57 v57, e6b16], [e6b5, hB 11 [.own 112, .pI (bax1 number g w)], e6b12 number, e6b28 l6220 srtv v57 srtv2, e6b17 srtv, e6b7, e6b0 g w rv, e6b1 ret51v]⟩ h fun h => awl_nil (blockQ_n (thenQ_n (aw_region (qA 2 0 1 ⟨116, [e6b20, e6b22, e6b21, e6b32, e6b23, e6b15 srtv, sI 57 (v57 + (1 : Int)), e6b16], [e6b5, hB 11 [.own 112, .pI (bax1 number g w)], e6b12 number, e6b28 l6220 srtv v57 srtv2, e6b17 srtv, e6b7, e6b0 g w rv, e6b1 ret51v]⟩ h fun h => qW [.ren 112 20112, .ren 20112 6220, .prune [0, 4, 8, 11, 55, 56, 57, 120] e6bn2] ⟨116, [e6b20, e6b22, e6b21, e6b32, e6b23, e6b15 srtv, sI 57 (v57 + (1 : Int)), e6b16], [e6b5, e6b2 number g w, e6b12 number, e6b17 srtv, hA 6220 36 tqa (l6220 ++ [(bax3 srtv v57 srtv2)]), e6b7, e6b0 g w rv, e6b1 ret51v]⟩ (awl_nil (thenQ_n ⟨((v57 + (1 : Int)), (l6220 ++ [(bax3 srtv v57 srtv2)])), rfl, h⟩)))))))))))
           ·refine aw_block (qV [.nilOwnB 14 3 6283 25 (.sl tI), .prune e6bn1 e6bn0] ⟨116, [e6b20, e6b22, e6b21, e6b32, e6b38, e6b23, e6b15 srtv, sI 57 v57, e6b6 ret51v srtv v57, e6b9 ret51v srtv v57, sI 77 (0 : Int), e6b16], [e6b5, e6b2 number g w, e6b4 srtv v57, e6b12 number, e6b17 srtv, e6b3 l6220, hA 6283 25 (.sl tI) ([] : List LI), e6b7, e6b0 g w rv, e6b1 ret51v]⟩ (aw_loop (σ := Int × LL) (fun s => ⟨116, [e6b20, e6b22, e6b21, e6b32, e6b38, e6b23, e6b15 srtv, sI 57 v57, e6b6 ret51v srtv v57, e6b9 ret51v srtv v57, sI 77 s.1, e6b16], [e6b5, e6b2 number g w, e6b4 srtv v57, e6b12 number, e6b17 srtv, e6b3 l6220, hA 6283 25 (.sl tI) s.2, e6b7, e6b0 g w rv, e6b1 ret51v]⟩) (fun s X => VC6_l2 K ret51v srtv number v57 l6220 X1 s.1 s.2 X) (s0 := ((0 : Int), ([] : List LI))) (fun s X2 h => ?_) h))
            obtain ⟨v77, l6283⟩ := s
            have h : VC6_l2 K ret51v srtv number v57 l6220 X1 v77 l6283 X2 := h
            unfold VC6_l2 at h
            refine qS 1 ⟨116, [e6b20, e6b22, e6b21, e6b32, e6b38, e6b23, e6b15 srtv, sI 57 v57, e6b6 ret51v srtv v57, e6b9 ret51v srtv v57, sI 77 v77, sB 78 (decide (v77 < (((mget ret51v (srtv.getD ((v57).toNat) z3)).getD ([] : Lqg)).length : Int))), e6b16], [e6b5, e6b2 number g w, e6b4 srtv v57, e6b12 number, e6b17 srtv, e6b3 l6220, e6b24 l6283, e6b7, e6b0 g w rv, e6b1 ret51v]⟩ (aw_seq (qI h (fun h => ?_) fun h => ?_))
            ·refine aw_skip (thenQ_n (aw_seq (aw_block (sr (qA 4 0 3 ⟨116, [e6b20, e6b22, e6b21, e6b32, e6b38, sp 16 16, e6b23, e6b15 srtv, sI 57 v57, e6b6 ret51v srtv v57, e6b9 ret51v srtv v57, sI 77 v77, e6b16], [e6b5, e6b2 number g w, e6b4 srtv v57, e6b25 ret51v srtv v57 v77, e6b12 number, e6b17 srtv, e6b3 l6220, e6b24 l6283, e6b7, e6b0 g w rv, e6b1 ret51v]⟩ h fun h => nsr (qT 4 ⟨116, [e6b20, e6b22, e6b21, e6b32, e6b38, sp 16 16, e6b44, e6b23, e6b15 srtv, sI 57 v57, e6b6 ret51v srtv v57, e6b9 ret51v srtv v57, sI 77 v77, e6b16], [e6b5, e6b2 number g w, e6b4 srtv v57, e6b25 ret51v srtv v57 v77, e6b12 number, hA 83 3 tI [(bax0 ret51v srtv v57 v77).1], e6b17 srtv, e6b3 l6220, e6b24 l6283, e6b7, e6b0 g w rv, e6b1 ret51v]⟩ (nn (aw_seq (qS 4 ⟨116, [e6b20, e6b22, e6b21, e6b32, e6b38, e6b44, e6b23, e6b15 srtv, sI 57 v57, e6b6 ret51v srtv v57, e6b9 ret51v srtv v57, sI 77 v77, e6b14 ret51v srtv v57 v77, e6b13 ret51v srtv v57 v77, sI 87 (0 : Int), e6b16], [e6b5, e6b2 number g w, e6b4 srtv v57, e6b12 number, hA 83 3 tI [(bax0 ret51v srtv v57 v77).1], e6b17 srtv, e6b3 l6220, e6b24 l6283, e6b7, e6b0 g w rv, e6b1 ret51v]⟩ (withJoin (σ := LI) (fun s => ⟨116, [e6b20, e6b22, e6b21, e6b32, e6b38, e6b44, e6b23, e6b15 srtv, sI 57 v57, e6b6 ret51v srtv v57, e6b9 ret51v srtv v57, sI 77 v77, e6b16], [e6b5, e6b2 number g w, e6b4 srtv v57, e6b12 number, hA 83 3 tI s, e6b17 srtv, e6b3 l6220, e6b24 l6283, e6b7, e6b0 g w rv, e6b1 ret51v]⟩) (fun s => VC6_k7 v77 l6283 X2 s) (fun row h => ?_) (fun rest4 => ?_)))))))))))
             ·have h : VC6_k7 v77 l6283 X2 row := h
              unfold VC6_k7 at h
              exact thenQ_n (aw_region (qT 3 ⟨116, [e6b20, e6b22, e6b21, e6b32, e6b38, e6b23, e6b15 srtv, sI 57 v57, e6b6 ret51v srtv v57, e6b9 ret51v srtv v57, sI 77 v77, s1 99 (.own 6283), s1 100 (.own 83), e6b16], [e6b5, e6b2 number g w, e6b4 srtv v57, e6b12 number, hA 83 3 tI row, e6b17 srtv, e6b3 l6220, e6b24 l6283, e6b7, e6b0 g w rv, e6b1 ret51v]⟩ (qW [.freeze 83] ⟨116, [e6b20, e6b22, e6b21, e6b32, e6b38, e6b23, e6b15 srtv, sI 57 v57, e6b6 ret51v srtv v57, e6b9 ret51v srtv v57, sI 77 v77, s1 99 (.own 6283), s1 100 (.pS row), e6b16], [e6b5, e6b2 number g w, e6b4 srtv v57, e6b12 number, e6b17 srtv, e6b3 l6220, e6b24 l6283, e6b7, e6b0 g w rv, e6b1 ret51v]⟩ (qA 4 1 2 ⟨116, [e6b20, e6b22, e6b21, e6b32, e6b38, e6b23, e6b15 srtv, sI 57 v57, e6b6 ret51v srtv v57, e6b9 ret51v srtv v57, sI 77 v77, e6b16], [e6b5, e6b2 number g w, e6b33 srtv v57, e6b12 number, hA 102 25 (.sl tI) (l6283 ++ [row]), e6b17 srtv, e6b3 l6220, e6b7, e6b0 g w rv, e6b1 ret51v]⟩ h fun h => awl_nil (blockQ_n (thenQ_n (aw_region (qA 2 0 1 ⟨116, [e6b20, e6b22, e6b21, e6b32, e6b38, e6b23, e6b15 srtv, sI 57 v57, e6b6 ret51v srtv v57, e6b9 ret51v srtv v57, sI 77 (v77 + (1 : Int)), e6b16], [e6b5, e6b2 number g w, e6b33 srtv v57, e6b12 number, hA 102 25 (.sl tI) (l6283 ++ [row]), e6b17 srtv, e6b3 l6220, e6b7, e6b0 g w rv, e6b1 ret51v]⟩ h fun h => qW [.ren 102 20102, .ren 20102 6283, .prune e6bn1 e6bn0] ⟨116, [e6b20, e6b22, e6b21, e6b32, e6b38, e6b23, e6b15 srtv, sI 57 v57, e6b6 ret51v srtv v57, e6b9 ret51v srtv v57, sI 77 (v77 + (1 : Int)), e6b16], [e6b5, e6b2 number g w, e6b4 srtv v57, e6b12 number, e6b17 srtv, e6b3 l6220, hA 6283 25 (.sl tI) (l6283 ++ [row]), e6b7, e6b0 g w rv, e6b1 ret51v]⟩ (awl_nil (thenQ_n ⟨((v77 + (1 : Int)), (l6283 ++ [row])), rfl, h⟩))))))))))
             ·refine aw_block (aw_loop (σ := Int × LI) (fun s => ⟨116, [e6b20, e6b22, e6b21, e6b32, e6b38, e6b44, e6b23, e6b15 srtv, sI 57 v57, e6b6 ret51v srtv v57, e6b9 ret51v srtv v57, sI 77 v77, e6b14 ret51v srtv v57 v77, e6b13 ret51v srtv v57 v77, sI 87 s.1, e6b16], [e6b5, e6b2 number g w, e6b4 srtv v57, e6b12 number, hA 83 3 tI s.2, e6b17 srtv, e6b3 l6220, e6b24 l6283, e6b7, e6b0 g w rv, e6b1 ret51v]⟩) (fun s X => VC6_l3 ret51v srtv number v57 v77 l6283 X2 s.1 s.2 X) (s0 := ((0 : Int), [(bax0 ret51v srtv v57 v77).1])) (fun s X3 h => ?_) h)
              obtain ⟨v87, row⟩ := s
              have h : VC6_l3 ret51v srtv number v57 v77 l6283 X2 v87 row X3 := h
              unfold VC6_l3 at h
              refine qS 1 ⟨116, [e6b20, e6b22, e6b21, e6b32, e6b38, e6b44, e6b23, e6b15 srtv, sI 57 v57, e6b6 ret51v srtv v57, e6b9 ret51v srtv v57, sI 77 v77, e6b14 ret51v srtv v57 v77, e6b13 ret51v srtv v57 v77, sI 87 v87, sB 88 (decide (v87 < (((bax0 ret51v srtv v57 v77).2).length : Int))), e6b16], [e6b5, e6b2 number g w, e6b4 srtv v57, e6b12 number, hA 83 3 tI row, e6b17 srtv, e6b3 l6220, e6b24 l6283, e6b7, e6b0 g w rv, e6b1 ret51v]⟩ (aw_seq (qI h (fun h => ?_) fun h => ?_))
              ·exact aw_skip (thenQ_n (aw_seq (aw_block (sr (qA 4 0 3 ⟨116, [e6b20, e6b22, e6b21, e6b32, e6b38, e6b44, sp 19 19, e6b23, e6b15 srtv, sI 57 v57, e6b6 ret51v srtv v57, e6b9 ret51v srtv v57, sI 77 v77, e6b14 ret51v srtv v57 v77, e6b13 ret51v srtv v57 v77, sI 87 v87, e6b16], [e6b5, e6b2 number g w, e6b4 srtv v57, hB 19 [.pI ((((bax0 ret51v srtv v57 v77).2).getD (v87).toNat z3).1), .pI ((((bax0 ret51v srtv v57 v77).2).getD (v87).toNat z3).2.1), .pI ((((bax0 ret51v srtv v57 v77).2).getD (v87).toNat z3).2.2)], e6b12 number, hA 83 3 tI row, e6b17 srtv, e6b3 l6220, e6b24 l6283, e6b7, e6b0 g w rv, e6b1 ret51v]⟩ h fun h => nn (aw_region (qA 7 5 1 ⟨116, [e6b20, e6b22, e6b21, e6b32, e6b38, s1 17 (.own 96), e6b23, e6b15 srtv, sI 57 v57, e6b6 ret51v srtv v57, e6b9 ret51v srtv v57, sI 77 v77, e6b14 ret51v srtv v57 v77, e6b13 ret51v srtv v57 v77, sI 87 v87, e6b16], [e6b5, e6b2 number g w, e6b4 srtv v57, e6b12 number, hA 96 3 tI (row ++ [((mget number (((bax0 ret51v srtv v57 v77).2).getD (v87).toNat z3)).getD (0 : Int))]), e6b17 srtv, e6b3 l6220, e6b24 l6283, e6b7, e6b0 g w rv, e6b1 ret51v]⟩ h fun h => awl_nil (blockQ_n (thenQ_n (aw_region (qA 2 0 1 ⟨116, [e6b20, e6b22, e6b21, e6b32, e6b38, s1 17 (.own 96), e6b23, e6b15 srtv, sI 57 v57, e6b6 ret51v srtv v57, e6b9 ret51v srtv v57, sI 77 v77, e6b14 ret51v srtv v57 v77, e6b13 ret51v srtv v57 v77, sI 87 (v87 + (1 : Int)), e6b16], [e6b5, e6b2 number g w, e6b4 srtv v57, e6b12 number, hA 96 3 tI (row ++ [((mget number (((bax0 ret51v srtv v57 v77).2).getD (v87).toNat z3)).getD (0 : Int))]), e6b17 srtv, e6b3 l6220, e6b24 l6283, e6b7, e6b0 g w rv, e6b1 ret51v]⟩ h fun h => qW [.ren 96 20096, .ren 20096 83] ⟨116, [e6b20, e6b22, e6b21, e6b32, e6b38, e6b44, e6b23, e6b15 srtv, sI 57 v57, e6b6 ret51v srtv v57, e6b9 ret51v srtv v57, sI 77 v77, e6b14 ret51v srtv v57 v77, e6b13 ret51v srtv v57 v77, sI 87 (v87 + (1 : Int)), e6b16], [e6b5, e6b2 number g w, e6b4 srtv v57, e6b12 number, hA 83 3 tI (row ++ [((mget number (((bax0 ret51v srtv v57 v77).2).getD (v87).toNat z3)).getD (0 : Int))]), e6b17 srtv, e6b3 l6220, e6b24 l6283, e6b7, e6b0 g w rv, e6b1 ret51v]⟩ (awl_nil (thenQ_n ⟨((v87 + (1 : Int)), (row ++ [((mget number (((bax0 ret51v srtv v57 v77).2).getD (v87).toNat z3)).getD (0 : Int))])), rfl, h⟩)))))))))))))
              ·exact qC ⟨116, [e6b20, e6b22, e6b21, e6b32, e6b38, e6b44, e6b23, e6b15 srtv, sI 57 v57, e6b6 ret51v srtv v57, e6b9 ret51v srtv v57, sI 77 v77, e6b16], [e6b5, e6b2 number g w, e6b4 srtv v57, e6b12 number, hA 83 3 tI row, e6b17 srtv, e6b3 l6220, e6b24 l6283, e6b7, e6b0 g w rv, e6b1 ret51v]⟩ (aw_exit (thenQ_x (thenQ_x (blockQ_hit (rest4 row h)))))
            ·exact qC ⟨116, [e6b20, e6b22, e6b21, e6b32, e6b38, e6b23, e6b15 srtv, sI 57 v57, e6b16], [e6b5, e6b2 number g w, e6b4 srtv v57, e6b12 number, e6b17 srtv, e6b3 l6220, e6b24 l6283, e6b7, e6b0 g w rv, e6b1 ret51v]⟩ (aw_exit (thenQ_x (thenQ_x (blockQ_hit (rest3 l6283 h)))))
          ·exact qC ⟨116, [e6b22, e6b32, e6b16], [e6b5, e6b2 number g w, e6b3 l6220, e6b7]⟩ (aw_exit (thenQ_x (thenQ_x (blockQ_hit (rest2 l6220 h)))))
        ·refine aw_block (aw_loop (σ := Int × Lqh) (fun s => ⟨116, [e6b20, sp 3 3, e6b22, e6b29, e6b21, e6b45, sI 41 (srtv.length : Int), sI 42 s.1, e6b16], [e6b10 g w, e6b5, (39, [], .dict t3 tI s.2), e6b17 srtv, e6b7, e6b0 g w rv, e6b1 ret51v]⟩) (fun s X => VC6_l4 g w K ret51v srtv s.1 s.2 X) (s0 := ((0 : Int), ([] : List (Lqf × Int)))) (fun s X4 h => ?_) h)
         obtain ⟨v42, number⟩ := s
         have h : VC6_l4 g w K ret51v srtv v42 number X4 := h
         unfold VC6_l4 at h
         refine qS 1 ⟨116, [e6b20, sp 3 3, e6b22, e6b29, e6b21, e6b45, sI 41 (srtv.length : Int), sI 42 v42, sB 43 (decide (v42 < (srtv.length : Int))), e6b16], [e6b10 g w, e6b5, e6b12 number, e6b17 srtv, e6b7, e6b0 g w rv, e6b1 ret51v]⟩ (aw_seq (qI h (fun h => ?_) fun h => ?_))
         ·exact aw_skip (thenQ_n (aw_seq (aw_block (sr (qA 6 1 4 ⟨116, [e6b20, sp 3 3, e6b22, e6b29, e6b21, sI 9 v42, sp 10 10, e6b45, sI 41 (srtv.length : Int), sI 42 v42, e6b16], [e6b10 g w, e6b5, hB 10 [.pI ((srtv.getD ((v42).toNat) z3).1), .pI ((srtv.getD ((v42).toNat) z3).2.1), .pI ((srtv.getD ((v42).toNat) z3).2.2)], e6b12 number, e6b17 srtv, e6b7, e6b0 g w rv, e6b1 ret51v]⟩ h fun h => nn (aw_region (qT 4 ⟨116, [e6b20, sp 3 3, e6b22, e6b29, e6b21, e6b45, sI 41 (srtv.length : Int), sI 42 v42, e6b16], [e6b10 g w, e6b5, (39, [], .dict t3 tI (mset number (srtv.getD ((v42).toNat) z3) v42)), e6b17 srtv, e6b7, e6b0 g w rv, e6b1 ret51v]⟩ (awl_nil (blockQ_n (thenQ_n (aw_region (qA 2 0 1 ⟨116, [e6b20, sp 3 3, e6b22, e6b29, e6b21, e6b45, sI 41 (srtv.length : Int), sI 42 (v42 + (1 : Int)), e6b16], [e6b10 g w, e6b5, (39, [], .dict t3 tI (mset number (srtv.getD ((v42).toNat) z3) v42)), e6b17 srtv, e6b7, e6b0 g w rv, e6b1 ret51v]⟩ h fun h => awl_nil (thenQ_n ⟨((v42 + (1 : Int)), (mset number (srtv.getD ((v42).toNat) z3) v42)), rfl, h⟩)))))))))))))
         ·exact qC ⟨116, [e6b20, sp 3 3, e6b22, e6b29, e6b21, e6b16], [e6b10 g w, e6b5, e6b12 number, e6b17 srtv, e6b7, e6b0 g w rv, e6b1 ret51v]⟩ (aw_exit (thenQ_x (thenQ_x (blockQ_hit (rest5 number h)))))
      ·refine aw_block (qV [.nilOwn 6 5006 58 t3, .prune [0, 3, 4, 6, 24, 120] [3, 4, 24, 5006, 30000, 70000, 70001]] ⟨116, [e6b20, sp 3 3, e6b22, e6b29, sp 24 24, e6b16], [e6b10 g w, e6b5, (24, [], .mit (.own 70001) ret51v.length ([] : List Nat)), hA 5006 58 t3 ([] : List Lqf), e6b7, e6b0 g w rv, e6b1 ret51v]⟩ (aw_loop (σ := (List Nat) × LN) (fun s => ⟨116, [e6b20, sp 3 3, e6b22, e6b29, sp 24 24, e6b16], [e6b10 g w, e6b5, (24, [], .mit (.own 70001) ret51v.length s.1), hA 5006 58 t3 s.2, e6b7, e6b0 g w rv, e6b1 ret51v]⟩) (fun s X => VC6_l5 g w K ret51v s.1 s.2 X) (s0 := (([] : List Nat), ([] : List Lqf))) (fun s X5 h => ?_) h))
       obtain ⟨l24, keys⟩ := s
       have h : VC6_l5 g w K ret51v l24 keys X5 := h
       unfold VC6_l5 at h
       refine sr (awl_next (t := 24) (d := 25) (q := 70001) (r := 24) (n := ret51v.length) (k := t3) (v := (.sl (.pr tI (.sl t3)))) (l := ret51v) (seen := l24) rfl rfl rfl (by kernel_rfl) (by kernel_rfl) (by kernel_rfl) (by kernel_rfl) rfl (fun j25 hj1 hj2 => ?_) (fun hall => ?_))
       ·have h := h.1 j25 hj1 hj2
        refine qL ⟨116, [e6b20, sp 3 3, e6b22, e6b29, sp 24 24, (25, [], .tup [.c (.pB true), .c (.any), .c (.any)]), e6b16], [e6b10 g w, e6b5, e6b30 ret51v l24 j25, e6b42 keys, e6b7, e6b0 g w rv, e6b1 ret51v]⟩ (qT 1 ⟨116, [e6b20, sp 3 3, e6b22, e6b29, sp 24 24, sB 26 true, e6b16], [e6b10 g w, e6b5, e6b30 ret51v l24 j25, e6b42 keys, e6b7, e6b0 g w rv, e6b1 ret51v]⟩ (nn (aw_seq (aw_cond (b := true) (by kernel_rfl) (fun _ => ?_) (fun hb => by cases hb)))))
        refine aw_skip (thenQ_n (aw_block (sr ?_)))
        obtain ⟨hi, h⟩ := h
        exact awl_entry (t := 24) (d := 27) (q := 70001) (r := 24) (n := ret51v.length) (k := t3) (v := (.sl (.pr tI (.sl t3)))) (l := ret51v) (i := j25) (seen := l24) (z3, ([] : Lqg)) rfl rfl rfl (by kernel_rfl) (by kernel_rfl) (by kernel_rfl) (by kernel_rfl) rfl hi (qL ⟨116, [e6b20, sp 3 3, e6b22, e6b29, sp 24 24, (27, [], .tup [.agg [.pI ((bax2 ret51v j25).1.1), .pI ((bax2 ret51v j25).1.2.1), .pI ((bax2 ret51v j25).1.2.2)], .c (.p (.sl (.pr tI (.sl t3))) ((bax2 ret51v j25).2))]), e6b16], [e6b10 g w, e6b5, e6b30 ret51v l24 j25, e6b42 keys, e6b7, e6b0 g w rv, e6b1 ret51v]⟩ (qT 3 ⟨116, [e6b20, sp 3 3, e6b22, e6b29, sp 7 7, sp 24 24, e6b16], [e6b10 g w, e6b5, hB 7 [.pI ((bax2 ret51v j25).1.1), .pI ((bax2 ret51v j25).1.2.1), .pI ((bax2 ret51v j25).1.2.2)], e6b30 ret51v l24 j25, e6b42 keys, e6b7, e6b0 g w rv, e6b1 ret51v]⟩ (nn (aw_region (qA 5 3 1 ⟨116, [e6b20, sp 3 3, e6b22, s1 6 (.own 32), sp 24 24, e6b16], [e6b10 g w, e6b5, e6b30 ret51v l24 j25, hA 32 58 t3 (keys ++ [(bax2 ret51v j25).1]), e6b7, e6b0 g w rv, e6b1 ret51v]⟩ h fun h => qW [.ren 32 20032, .ren 20032 5006] ⟨116, [e6b20, sp 3 3, e6b22, e6b29, sp 24 24, e6b16], [e6b10 g w, e6b5, e6b30 ret51v l24 j25, hA 5006 58 t3 (keys ++ [(bax2 ret51v j25).1]), e6b7, e6b0 g w rv, e6b1 ret51v]⟩ (awl_nil (blockQ_n (thenQ_n ⟨(l24 ++ [j25], (keys ++ [(bax2 ret51v j25).1])), rfl, h⟩))))))))
       ·have h := h.2 hall
        exact qL ⟨116, [e6b20, sp 3 3, e6b22, e6b29, sp 24 24, (25, [], .tup [.c (.pB false)]), e6b16], [e6b10 g w, e6b5, (24, [], .mit (.own 70001) ret51v.length l24), e6b42 keys, e6b7, e6b0 g w rv, e6b1 ret51v]⟩ (qT 1 ⟨116, [e6b20, sp 3 3, e6b22, e6b29, sp 24 24, sB 26 false, e6b16], [e6b10 g w, e6b5, (24, [], .mit (.own 70001) ret51v.length l24), e6b42 keys, e6b7, e6b0 g w rv, e6b1 ret51v]⟩ (nn (aw_seq (aw_cond (b := false) (by kernel_rfl) (fun hb => by cases hb) (fun _ => (qC ⟨116, [e6b20, sp 3 3, e6b22, e6b29, e6b16], [e6b10 g w, e6b5, e6b42 keys, e6b7, e6b0 g w rv, e6b1 ret51v]⟩ (aw_exit (thenQ_x (thenQ_x (blockQ_hit (rest6 keys h)))))))))))
   ·refine awd_begin [] (by kernel_rfl) ?_
    refine qDT 4 [0, 1, 2, 3] [3, 2, 1, 0] ⟨57, [e6b36 w, sp 2 2, e6b22, e6b27 g, s1 21 (.pS w), e6b41 g, s1 23 (.pS w)], [e6b8 g, e6b5]⟩ (awd_two (i := 4) (j := 5) (by kernel_rfl) ?_ ?_)
    ·have h := h
     refine dcq (d := 24) [.d tG, .d (.sl tI)] (fun ret24v => ⟨57, [e6b36 w, sp 2 2, e6b22, e6b27 g, s1 21 (.pS w), e6b39 ret24v], [e6b8 g, e6b5]⟩) rfl (by kernel_rfl) Try.call14 (fun _ => by kernel_rfl) (link14 g w _ h) (fun ret24v h => (awd_one (i := 5) (by kernel_rfl) ?_))
     refine dsq (ob := True) (st' := ⟨57, [e6b36 w, sp 2 2, e6b22, e6b27 g, s1 21 (.pS w), e6b39 ret24v, s1 25 (.own 25)], [e6b8 g, e6b5, e6b11]⟩) rfl (by kernel_rfl) trivial ?_
     refine qDT 1 [6] [6, 5, 4, 3, 2, 1, 0] ⟨57, [e6b36 w, sp 2 2, e6b22, e6b31 g w ret24v], [e6b8 g, e6b5, e6b11]⟩ (awd_one (i := 7) (by kernel_rfl) ?_)
     refine dsq (ob := True) (st' := ⟨57, [e6b36 w, sp 2 2, e6b22, sp 27 27], [e6b8 g, e6b5, e6b11, e6b19 g w ret24v]⟩) rfl (by kernel_rfl) trivial ?_
     refine qDT 1 [8] [8, 7, 6, 5, 4, 3, 2, 1, 0] ⟨57, [e6b36 w, sp 2 2, e6b22, sp 7 27], [e6b8 g, e6b5, e6b11, e6b19 g w ret24v]⟩ (awd_done (by kernel_rfl) ?_)
     exact rest7 ret24v h
    ·have h := h
     refine dsq (ob := True) (st' := ⟨57, [e6b36 w, sp 2 2, e6b22, e6b27 g, s1 21 (.pS w), e6b41 g, s1 23 (.pS w), s1 25 (.own 25)], [e6b8 g, e6b5, e6b11]⟩) rfl (by kernel_rfl) trivial ?_
     refine awd_one (i := 4) (by kernel_rfl) ?_
     refine dcq (d := 24) [.d tG, .d (.sl tI)] (fun ret24v => ⟨57, [e6b36 w, sp 2 2, e6b22, e6b27 g, s1 21 (.pS w), e6b39 ret24v, s1 25 (.own 25)], [e6b8 g, e6b5, e6b11]⟩) rfl (by kernel_rfl) Try.call14 (fun _ => by kernel_rfl) (link14 g w _ h) (fun ret24v h => (qDT 1 [6] [6, 4, 5, 3, 2, 1, 0] ⟨57, [e6b36 w, sp 2 2, e6b22, e6b31 g w ret24v], [e6b8 g, e6b5, e6b11]⟩ (awd_one (i := 7) (by kernel_rfl) ?_)))
     refine dsq (ob := True) (st' := ⟨57, [e6b36 w, sp 2 2, e6b22, sp 27 27], [e6b8 g, e6b5, e6b11, e6b19 g w ret24v]⟩) rfl (by kernel_rfl) trivial ?_
     refine qDT 1 [8] [8, 7, 6, 4, 5, 3, 2, 1, 0] ⟨57, [e6b36 w, sp 2 2, e6b22, sp 7 27], [e6b8 g, e6b5, e6b11, e6b19 g w ret24v]⟩ (awd_done (by kernel_rfl) ?_)
     exact rest7 ret24v h
abbrev e64_0 (g : TG) := hB 2 [.pI g.1, .pI g.2.1, .pI g.2.2.1, .p (.sl tR) g.2.2.2]
abbrev e64_1 (l : LI) := sI 8 (l.length : Int)
-- coppicer/coppicerref.Signs
def VC64_k1 (K : Bool → Prop) : Prop :=
  K true
def VC64_l1 (g : TG) (l : LI) (K : Bool → Prop) (v9 : Int) (X1 : Int → Prop) : Prop :=
  (((decide (v9 < (l.length : Int))) = true → (inIdx v9 l.length ∧ (((decide ((l.getD (v9).toNat (0 : Int)) < (0 : Int))) = false → InR (g.1 + g.2.1)) ∧ ((((decide ((l.getD (v9).toNat (0 : Int)) < (0 : Int))) || (decide ((g.1 + g.2.1) ≤ (l.getD (v9).toNat (0 : Int))))) = true → K false) ∧ (((decide ((l.getD (v9).toNat (0 : Int)) < (0 : Int))) || (decide ((g.1 + g.2.1) ≤ (l.getD (v9).toNat (0 : Int))))) = false → (InR (v9 + (1 : Int)) ∧ X1 (v9 + (1 : Int)))))))) ∧ ((decide (v9 < (l.length : Int))) = false → VC64_k1 K))
def VC64 (g : TG) (l : LI) (K : Bool → Prop) : Prop :=
  Loop (σ := Int) (fun s X => VC64_l1 g l K s X) (0 : Int)
abbrev bbx0 (l : LI) (v9 : Int) := decide ((l.getD (v9).toNat (0 : Int)) < (0 : Int))
theorem link64 (g : TG) (l : LI) (K : Bool → Prop) (h : VC64 g l K) : ACalls Try.prog 64 [toV1 tG g, toV1 (.sl tI) l] (fun res => ∃ y, res = (fun y => [toV1 .bool y]) y ∧ K y) := by
 refine acalls_of_aw [.bool] [.t 4] Try.func64 rfl rfl rfl ?_
 unfold VC64 at h
 refine qS 2 ⟨25, [s1 1 (.pS l), sp 2 2], [e64_0 g]⟩ (aw_seq (qS 3 ⟨25, [sp 2 2, s1 7 (.pS l), e64_1 l, sI 9 (0 : Int)], [e64_0 g]⟩ (withJoin (σ := Unit) (fun s => ⟨25, [], []⟩) (fun s => VC64_k1 K) (fun s h => ?_) (fun rest1 => ?_))))
 ·have h : VC64_k1 K := h
  unfold VC64_k1 at h
  exact thenQ_n (qS 1 ⟨25, [sB 4 true], []⟩ (aw_ret (qE 1 h)))
 ·refine aw_block (aw_loop (σ := Int) (fun s => ⟨25, [sp 2 2, s1 7 (.pS l), e64_1 l, sI 9 s], [e64_0 g]⟩) (fun s X => VC64_l1 g l K s X) (s0 := (0 : Int)) (fun v9 X1 h => ?_) h)
  have h : VC64_l1 g l K v9 X1 := h
  unfold VC64_l1 at h
  refine qS 1 ⟨25, [sp 2 2, s1 7 (.pS l), e64_1 l, sI 9 v9, sB 10 (decide (v9 < (l.length : Int)))], [e64_0 g]⟩ (aw_seq (qI h (fun h => ?_) fun h => ?_))
  ·refine aw_skip (thenQ_n (aw_seq (aw_block (sr (qA 3 0 2 ⟨25, [sp 2 2, sI 6 (l.getD (v9).toNat (0 : Int)), s1 7 (.pS l), e64_1 l, sI 9 v9], [e64_0 g]⟩ h fun h => nsr ?_)))))
   obtain ⟨o1, h⟩ := h
   refine qR 11 ⟨25, [sp 2 2, s1 7 (.pS l), e64_1 l, sI 9 v9, sB 23 ((bbx0 l v9) || (decide ((g.1 + g.2.1) ≤ (l.getD (v9).toNat (0 : Int)))))], [e64_0 g]⟩ (ob := Ts 3 (Ti 5 ((bbx0 l v9) = false → True) (((bbx0 l v9) = false → InR (g.1 + g.2.1)) ∧ ((bbx0 l v9) = false → True) ∧ Ts 1 True))) (tsI 3 (tiI 5 (fun _ => trivial) (⟨o1, ⟨(fun _ => trivial), tsI 1 trivial⟩⟩))) ?_
   refine nn (qI h (fun h => ?_) fun h => ?_)
   ·exact qS 1 ⟨25, [sB 4 false], []⟩ (aw_ret (blockQ_r (thenQ_r (thenQ_r (blockQ_r (thenQ_r (qE 1 h)))))))
   ·exact aw_skip (blockQ_n (thenQ_n (aw_region (qA 2 0 1 ⟨25, [sp 2 2, s1 7 (.pS l), e64_1 l, sI 9 (v9 + (1 : Int))], [e64_0 g]⟩ h fun h => awl_nil (thenQ_n ⟨(v9 + (1 : Int)), rfl, h⟩)))))
  ·exact qC ⟨25, [], []⟩ (aw_exit (thenQ_x (thenQ_x (blockQ_hit (rest1 () h)))))
abbrev e41_0 (g : TG) := hB 1 [.pI g.1, .pI g.2.1, .pI g.2.2.1, .p (.sl tR) g.2.2.2]
abbrev e41_1 (g : TG) := s1 54 (.p (.sl tR) g.2.2.2)
abbrev e41_2 (g : TG) := s1 32 (.p (.sl tR) g.2.2.2)
abbrev e41_3 (g : TG) (v56 : Int) := sB 70 ((decide ((g.2.2.2.getD (v56).toNat zqb).1 < (0 : Int))) || (decide (g.2.1 ≤ (g.2.2.2.getD (v56).toNat zqb).1)))
abbrev e41_4 (g : TG) := sI 55 (g.2.2.2.length : Int)
abbrev e41_5 (g : TG) := sI 33 (g.2.2.2.length : Int)
-- coppicer/coppicerref.GrammarCheck
def VC41_k2 (K : Int → Prop) : Prop :=
  K (0 : Int)
def VC41_l1 (g : TG) (K : Int → Prop) (v56 : Int) (X1 : Int → Prop) : Prop :=
  (((decide (v56 < (g.2.2.2.length : Int))) = true → (inIdx v56 g.2.2.2.length ∧ gcall (α := Bool) (!((decide ((g.2.2.2.getD (v56).toNat ((0 : Int), ([] : LI))).1 < (0 : Int))) || (decide (g.2.1 ≤ (g.2.2.2.getD (v56).toNat ((0 : Int), ([] : LI))).1)))) (VC64 g ((g.2.2.2.getD (v56).toNat ((0 : Int), ([] : LI))).2)) false (fun (ret74v : Bool) => (((((decide ((g.2.2.2.getD (v56).toNat ((0 : Int), ([] : LI))).1 < (0 : Int))) || (decide (g.2.1 ≤ (g.2.2.2.getD (v56).toNat ((0 : Int), ([] : LI))).1))) || (!ret74v)) = true → K (2 : Int)) ∧ ((((decide ((g.2.2.2.getD (v56).toNat ((0 : Int), ([] : LI))).1 < (0 : Int))) || (decide (g.2.1 ≤ (g.2.2.2.getD (v56).toNat ((0 : Int), ([] : LI))).1))) || (!ret74v)) = false → (InR (v56 + (1 : Int)) ∧ X1 (v56 + (1 : Int)))))))) ∧ ((decide (v56 < (g.2.2.2.length : Int))) = false → VC41_k2 K))
def VC41_k1 (g : TG) (K : Int → Prop) : Prop :=
  ((((decide (g.2.2.1 < (0 : Int))) || (decide (g.2.1 ≤ g.2.2.1))) = true → K (2 : Int)) ∧ (((decide (g.2.2.1 < (0 : Int))) || (decide (g.2.1 ≤ g.2.2.1))) = false → Loop (σ := Int) (fun s X => VC41_l1 g K s X) (0 : Int)))
def VC41_l2 (g : TG) (K : Int → Prop) (v34 : Int) (X2 : Int → Prop) : Prop :=
  (((decide (v34 < (g.2.2.2.length : Int))) = true → (inIdx v34 g.2.2.2.length ∧ (((decide ((4 : Int) < (((g.2.2.2.getD (v34).toNat ((0 : Int), ([] : LI))).2).length : Int))) = true → K (1 : Int)) ∧ ((decide ((4 : Int) < (((g.2.2.2.getD (v34).toNat ((0 : Int), ([] : LI))).2).length : Int))) = false → (InR (v34 + (1 : Int)) ∧ X2 (v34 + (1 : Int))))))) ∧ ((decide (v34 < (g.2.2.2.length : Int))) = false → VC41_k1 g K))
def VC41 (g : TG) (K : Int → Prop) : Prop :=
  (((((((decide (g.1 < (1 : Int))) || (decide ((3 : Int) < g.1))) || (decide (g.2.1 < (1 : Int)))) || (decide ((5 : Int) < g.2.1))) || (decide ((10 : Int) < (g.2.2.2.length : Int)))) = true → K (1 : Int)) ∧ ((((((decide (g.1 < (1 : Int))) || (decide ((3 : Int) < g.1))) || (decide (g.2.1 < (1 : Int)))) || (decide ((5 : Int) < g.2.1))) || (decide ((10 : Int) < (g.2.2.2.length : Int)))) = false → Loop (σ := Int) (fun s X => VC41_l2 g K s X) (0 : Int)))
abbrev bcx0 (g : TG) (v56 : Int) := (decide ((g.2.2.2.getD (v56).toNat zqb).1 < (0 : Int))) || (decide (g.2.1 ≤ (g.2.2.2.getD (v56).toNat zqb).1))
abbrev bcx1 (g : TG) (v56 : Int) := g.2.2.2.getD (v56).toNat zqb
abbrev bcx2 (g : TG) := (decide (g.1 < (1 : Int))) || (decide ((3 : Int) < g.1))
theorem link41 (g : TG) (K : Int → Prop) (h : VC41 g K) : ACalls Try.prog 41 [toV1 tG g] (fun res => ∃ y, res = (fun y => [toV1 tI y]) y ∧ K y) := by
 refine acalls_of_aw [tI] [.t 2] Try.func41 rfl rfl rfl ?_
 unfold VC41 at h
 refine qS 2 ⟨78, [sp 1 1], [e41_0 g]⟩ (aw_seq (sr (qR 24 ⟨78, [sp 1 1, sB 30 ((((bcx2 g) || (decide (g.2.1 < (1 : Int)))) || (decide ((5 : Int) < g.2.1))) || (decide ((10 : Int) < (g.2.2.2.length : Int))))], [e41_0 g]⟩ (ob := Ts 4 (Ti 3 ((decide (g.1 < (1 : Int))) = false → True) (Ts 2 (Ti 3 ((bcx2 g) = false → True) (Ts 2 (Ti 3 (((bcx2 g) || (decide (g.2.1 < (1 : Int)))) = false → True) (Ts 2 (Ti 4 ((((bcx2 g) || (decide (g.2.1 < (1 : Int)))) || (decide ((5 : Int) < g.2.1))) = false → True) (Ts 1 True))))))))) (tsI 4 (tiI 3 (fun _ => trivial) (tsI 2 (tiI 3 (fun _ => trivial) (tsI 2 (tiI 3 (fun _ => trivial) (tsI 2 (tiI 4 (fun _ => trivial) (tsI 1 trivial))))))))) ?_)))
 refine nn (qI h (fun h => ?_) fun h => ?_)
 ·exact qS 1 ⟨78, [sI 2 (1 : Int)], []⟩ (aw_ret (thenQ_r (qE 1 h)))
 ·refine aw_skip (thenQ_n (aw_seq (qS 4 ⟨78, [sp 1 1, e41_2 g, e41_5 g, sI 34 (0 : Int)], [e41_0 g]⟩ (withJoin (σ := Unit) (fun s => ⟨78, [sp 1 1], [e41_0 g]⟩) (fun s => VC41_k1 g K) (fun s h => ?_) (fun rest2 => ?_)))))
  ·have h : VC41_k1 g K := h
   unfold VC41_k1 at h
   refine thenQ_n (aw_seq (sr (qR 10 ⟨78, [sp 1 1, sB 52 ((decide (g.2.2.1 < (0 : Int))) || (decide (g.2.1 ≤ g.2.2.1)))], [e41_0 g]⟩ (ob := Ts 4 (Ti 5 ((decide (g.2.2.1 < (0 : Int))) = false → True) (Ts 1 True))) (tsI 4 (tiI 5 (fun _ => trivial) (tsI 1 trivial))) ?_)))
   refine nn (qI h (fun h => ?_) fun h => ?_)
   ·exact qS 1 ⟨78, [sI 2 (2 : Int)], []⟩ (aw_ret (thenQ_r (qE 1 h)))
   ·refine aw_skip (thenQ_n (aw_seq (qS 4 ⟨78, [sp 1 1, e41_1 g, e41_4 g, sI 56 (0 : Int)], [e41_0 g]⟩ (withJoin (σ := Unit) (fun s => ⟨78, [], []⟩) (fun s => VC41_k2 K) (fun s h => ?_) (fun rest1 => ?_)))))
    ·have h : VC41_k2 K := h
     unfold VC41_k2 at h
     exact thenQ_n (qS 1 ⟨78, [sI 2 (0 : Int)], []⟩ (aw_ret (qE 1 h)))
    ·refine aw_block (aw_loop (σ := Int) (fun s => ⟨78, [sp 1 1, e41_1 g, e41_4 g, sI 56 s], [e41_0 g]⟩) (fun s X => VC41_l1 g K s X) (s0 := (0 : Int)) (fun v56 X1 h => ?_) h)
     have h : VC41_l1 g K v56 X1 := h
     unfold VC41_l1 at h
     refine qS 1 ⟨78, [sp 1 1, e41_1 g, e41_4 g, sI 56 v56, sB 57 (decide (v56 < (g.2.2.2.length : Int)))], [e41_0 g]⟩ (aw_seq (qI h (fun h => ?_) fun h => ?_))
     ·refine aw_skip (thenQ_n (aw_seq (aw_block (sr (qA 4 0 3 ⟨78, [sp 1 1, sp 6 6, e41_1 g, e41_4 g, sI 56 v56], [e41_0 g, hB 6 [.pI ((bcx1 g v56).1), .pS ((bcx1 g v56).2)]]⟩ h fun h => nsr (qR 14 ⟨78, [sp 1 1, e41_1 g, e41_4 g, sI 56 v56, e41_3 g v56, (71, [(70, false)], .v (.agg [.pI g.1, .pI g.2.1, .pI g.2.2.1, .p (.sl tR) g.2.2.2])), (73, [(70, false)], .v (.c (.pS ((bcx1 g v56).2))))], [e41_0 g]⟩ (ob := Ts 4 (Ti 5 ((decide ((bcx1 g v56).1 < (0 : Int))) = false → True) (Ts 2 (Ti 3 ((bcx0 g v56) = false → True) True)))) (tsI 4 (tiI 5 (fun _ => trivial) (tsI 2 (tiI 3 (fun _ => trivial) trivial)))) ?_))))))
      refine awl_callk (p := [(70, false)]) (l := [toV1 tG g, toV1 (.sl tI) ((bcx1 g v56).2)]) (cl := []) false [.d tG, .d (.sl tI)] [1, 54, 55, 56, 70, 74] [1] (fun (ret74v : Bool) => ((((bcx0 g v56) || (!ret74v)) = true → K (2 : Int)) ∧ (((bcx0 g v56) || (!ret74v)) = false → (InR (v56 + (1 : Int)) ∧ X1 (v56 + (1 : Int)))))) (fun ret74v => [toV1 .bool ret74v]) (fun ret74v => ⟨78, [sp 1 1, e41_1 g, e41_4 g, sI 56 v56, e41_3 g v56, (74, [(70, false)], .v (.c (.pB ret74v)))], [e41_0 g]⟩) (by kernel_rfl) rfl (by kernel_rfl) rfl (by kernel_rfl) Try.call64 (by kernel_rfl) (fun ret74v => by kernel_rfl) (fun e => by cases e) (fun hg => link64 g ((bcx1 g v56).2) _ (by have := gcall_T h (show (!(bcx0 g v56)) = true from hg); exact this)) (fun hg => ⟨false, by have := gcall_F h (show (!(bcx0 g v56)) = false from hg); exact this⟩) (fun ret74v h => ?_)
      refine qR 2 ⟨78, [sp 1 1, e41_1 g, e41_4 g, sI 56 v56, sB 76 ((bcx0 g v56) || (!ret74v))], [e41_0 g]⟩ (ob := ((bcx0 g v56) = false → True) ∧ Ts 1 True) (⟨(fun _ => trivial), tsI 1 trivial⟩) ?_
      refine nn (qI h (fun h => ?_) fun h => ?_)
      ·exact qS 1 ⟨78, [sI 2 (2 : Int)], []⟩ (aw_ret (blockQ_r (thenQ_r (thenQ_r (blockQ_r (thenQ_r (qE 1 h)))))))
      ·exact aw_skip (blockQ_n (thenQ_n (aw_region (qA 2 0 1 ⟨78, [sp 1 1, e41_1 g, e41_4 g, sI 56 (v56 + (1 : Int))], [e41_0 g]⟩ h fun h => awl_nil (thenQ_n ⟨(v56 + (1 : Int)), rfl, h⟩)))))
     ·exact qC ⟨78, [], []⟩ (aw_exit (thenQ_x (thenQ_x (blockQ_hit (rest1 () h)))))
  ·refine aw_block (aw_loop (σ := Int) (fun s => ⟨78, [sp 1 1, e41_2 g, e41_5 g, sI 34 s], [e41_0 g]⟩) (fun s X => VC41_l2 g K s X) (s0 := (0 : Int)) (fun v34 X2 h => ?_) h)
   have h : VC41_l2 g K v34 X2 := h
   unfold VC41_l2 at h
   refine qS 1 ⟨78, [sp 1 1, e41_2 g, e41_5 g, sI 34 v34, sB 35 (decide (v34 < (g.2.2.2.length : Int)))], [e41_0 g]⟩ (aw_seq (qI h (fun h => ?_) fun h => ?_))
   ·refine aw_skip (thenQ_n (aw_seq (aw_block (sr (qA 4 0 3 ⟨78, [sp 1 1, sp 4 4, e41_2 g, e41_5 g, sI 34 v34], [e41_0 g, hB 4 [.pI ((g.2.2.2.getD (v34).toNat zqb).1), .pS ((g.2.2.2.getD (v34).toNat zqb).2)]]⟩ h fun h => nsr (qT 4 ⟨78, [sp 1 1, e41_2 g, e41_5 g, sI 34 v34, sB 41 (decide ((4 : Int) < (((g.2.2.2.getD (v34).toNat zqb).2).length : Int)))], [e41_0 g]⟩ (nn (qI h (fun h => ?_) fun h => ?_))))))))
    ·exact qS 1 ⟨78, [sI 2 (1 : Int)], []⟩ (aw_ret (blockQ_r (thenQ_r (thenQ_r (blockQ_r (thenQ_r (qE 1 h)))))))
    ·exact aw_skip (blockQ_n (thenQ_n (aw_region (qA 2 0 1 ⟨78, [sp 1 1, e41_2 g, e41_5 g, sI 34 (v34 + (1 : Int))], [e41_0 g]⟩ h fun h => awl_nil (thenQ_n ⟨(v34 + (1 : Int)), rfl, h⟩)))))
   ·exact qC ⟨78, [sp 1 1], [e41_0 g]⟩ (aw_exit (thenQ_x (thenQ_x (blockQ_hit (rest2 () h)))))
abbrev e42_0 (w : LI) := sI 11 (w.length : Int)
-- coppicer/coppicerref.WordCheck
def VC42_k1 (K : Int → Prop) : Prop :=
  K (0 : Int)
def VC42_l1 (k : Int) (w : LI) (K : Int → Prop) (v12 : Int) (X1 : Int → Prop) : Prop :=
  (((decide (v12 < (w.length : Int))) = true → (inIdx v12 w.length ∧ ((((decide ((w.getD (v12).toNat (0 : Int)) < (0 : Int))) || (decide (k ≤ (w.getD (v12).toNat (0 : Int))))) = true → K (2 : Int)) ∧ (((decide ((w.getD (v12).toNat (0 : Int)) < (0 : Int))) || (decide (k ≤ (w.getD (v12).toNat (0 : Int))))) = false → (InR (v12 + (1 : Int)) ∧ X1 (v12 + (1 : Int))))))) ∧ ((decide (v12 < (w.length : Int))) = false → VC42_k1 K))
def VC42 (k : Int) (w : LI) (K : Int → Prop) : Prop :=
  (((decide ((12 : Int) < (w.length : Int))) = true → K (1 : Int)) ∧ ((decide ((12 : Int) < (w.length : Int))) = false → Loop (σ := Int) (fun s X => VC42_l1 k w K s X) (0 : Int)))
theorem link42 (k : Int) (w : LI) (K : Int → Prop) (h : VC42 k w K) : ACalls Try.prog 42 [toV1 tI k, toV1 (.sl tI) w] (fun res => ∃ y, res = (fun y => [toV1 tI y]) y ∧ K y) := by
 refine acalls_of_aw [tI] [.t 4] Try.func42 rfl rfl rfl ?_
 unfold VC42 at h
 refine qS 1 ⟨24, [sI 0 k, s1 1 (.pS w)], []⟩ (aw_seq (qS 3 ⟨24, [sI 0 k, s1 1 (.pS w), sB 9 (decide ((12 : Int) < (w.length : Int)))], []⟩ (qI h (fun h => ?_) fun h => ?_)))
 ·exact qS 1 ⟨24, [sI 4 (1 : Int)], []⟩ (aw_ret (thenQ_r (qE 1 h)))
 ·refine aw_skip (thenQ_n (aw_seq (qS 3 ⟨24, [sI 0 k, s1 10 (.pS w), e42_0 w, sI 12 (0 : Int)], []⟩ (withJoin (σ := Unit) (fun s => ⟨24, [], []⟩) (fun s => VC42_k1 K) (fun s h => ?_) (fun rest1 => ?_)))))
  ·have h : VC42_k1 K := h
   unfold VC42_k1 at h
   exact thenQ_n (qS 1 ⟨24, [sI 4 (0 : Int)], []⟩ (aw_ret (qE 1 h)))
  ·refine aw_block (aw_loop (σ := Int) (fun s => ⟨24, [sI 0 k, s1 10 (.pS w), e42_0 w, sI 12 s], []⟩) (fun s X => VC42_l1 k w K s X) (s0 := (0 : Int)) (fun v12 X1 h => ?_) h)
   have h : VC42_l1 k w K v12 X1 := h
   unfold VC42_l1 at h
   refine qS 1 ⟨24, [sI 0 k, s1 10 (.pS w), e42_0 w, sI 12 v12, sB 13 (decide (v12 < (w.length : Int)))], []⟩ (aw_seq (qI h (fun h => ?_) fun h => ?_))
   ·refine aw_skip (thenQ_n (aw_seq (aw_block (sr (qA 3 0 2 ⟨24, [sI 0 k, sI 6 (w.getD (v12).toNat (0 : Int)), s1 10 (.pS w), e42_0 w, sI 12 v12], []⟩ h fun h => nsr (qR 7 ⟨24, [sI 0 k, s1 10 (.pS w), e42_0 w, sI 12 v12, sB 22 ((decide ((w.getD (v12).toNat (0 : Int)) < (0 : Int))) || (decide (k ≤ (w.getD (v12).toNat (0 : Int)))))], []⟩ (ob := Ts 3 (Ti 3 ((decide ((w.getD (v12).toNat (0 : Int)) < (0 : Int))) = false → True) (Ts 1 True))) (tsI 3 (tiI 3 (fun _ => trivial) (tsI 1 trivial))) ?_))))))
    refine nn (qI h (fun h => ?_) fun h => ?_)
    ·exact qS 1 ⟨24, [sI 4 (2 : Int)], []⟩ (aw_ret (blockQ_r (thenQ_r (thenQ_r (blockQ_r (thenQ_r (qE 1 h)))))))
    ·exact aw_skip (blockQ_n (thenQ_n (aw_region (qA 2 0 1 ⟨24, [sI 0 k, s1 10 (.pS w), e42_0 w, sI 12 (v12 + (1 : Int))], []⟩ h fun h => awl_nil (thenQ_n ⟨(v12 + (1 : Int)), rfl, h⟩)))))
   ·exact qC ⟨24, [], []⟩ (aw_exit (thenQ_x (thenQ_x (blockQ_hit (rest1 () h)))))
abbrev e18_0 (g : TG) := hB 2 [.pI g.1, .pI g.2.1, .pI g.2.2.1, .p (.sl tR) g.2.2.2]
-- coppicer/coppicerkeep.grown
def VC18 (g : TG) (w : LI) (K : Bool → Prop) : Prop :=
  VC41 g (fun (ret6v : Int) => gcall (α := Int) (decide (ret6v = (0 : Int))) (VC42 g.1 w) (0 : Int) (fun (ret12v : Int) => K ((decide (ret6v = (0 : Int))) && (decide (ret12v = (0 : Int))))))
abbrev bex0 (ret6v : Int) := decide (ret6v = (0 : Int))
theorem link18 (g : TG) (w : LI) (K : Bool → Prop) (h : VC18 g w K) : ACalls Try.prog 18 [toV1 tG g, toV1 (.sl tI) w] (fun res => ∃ y, res = (fun y => [toV1 .bool y]) y ∧ K y) := by
 refine acalls_of_aw [.bool] [.t 4] Try.func18 rfl rfl rfl ?_
 unfold VC18 at h
 refine sr (qT 2 ⟨15, [s1 1 (.pS w), sp 2 2], [e18_0 g]⟩ (nsr (qT 1 ⟨15, [s1 1 (.pS w), sp 2 2, sA 5 [.pI g.1, .pI g.2.1, .pI g.2.2.1, .p (.sl tR) g.2.2.2]], [e18_0 g]⟩ (qK 6 [.d tG] (fun ret6v => ⟨15, [s1 1 (.pS w), sp 2 2, sI 6 ret6v], [e18_0 g]⟩) Try.call41 (link41 g _ h) fun ret6v h => ?_))))
 refine qR 5 ⟨15, [sB 8 (bex0 ret6v), (10, [(8, true)], .v (.c (.pI g.1))), (11, [(8, true)], .v (.c (.pS w)))], []⟩ (ob := Ts 2 (Ti 3 ((bex0 ret6v) = true → True) True)) (tsI 2 (tiI 3 (fun _ => trivial) trivial)) ?_
 refine awl_callk (p := [(8, true)]) (l := [toV1 tI g.1, toV1 (.sl tI) w]) (cl := []) false [.d tI, .d (.sl tI)] [8, 12] [] (fun (ret12v : Int) => K ((bex0 ret6v) && (decide (ret12v = (0 : Int))))) (fun ret12v => [toV1 tI ret12v]) (fun ret12v => ⟨15, [sB 8 (bex0 ret6v), (12, [(8, true)], .v (.c (.pI ret12v)))], []⟩) (by kernel_rfl) rfl (by kernel_rfl) rfl (by kernel_rfl) Try.call42 (by kernel_rfl) (fun ret12v => by kernel_rfl) (fun e => by cases e) (fun hg => link42 g.1 w _ (by have := gcall_T h (show (bex0 ret6v) = true from hg); exact this)) (fun hg => ⟨(0 : Int), by have := gcall_F h (show (bex0 ret6v) = false from hg); exact this⟩) (fun ret12v h => ?_)
 refine qR 3 ⟨15, [sB 4 ((bex0 ret6v) && (decide (ret12v = (0 : Int))))], []⟩ (ob := ((bex0 ret6v) = true → True) ∧ Ts 2 True) (⟨(fun _ => trivial), tsI 2 trivial⟩) ?_
 exact nn (aw_ret (qE 1 h))
abbrev e19_0 (g : TG) := hB 1 [.pI g.1, .pI g.2.1, .pI g.2.2.1, .p (.sl tR) g.2.2.2]
abbrev e19_1 (g : TG) := s1 6 (.p (.sl tR) g.2.2.2)
abbrev e19_2 (g : TG) := sI 7 (g.2.2.2.length : Int)
-- coppicer/coppicerref.Proper
def VC19_k1 (K : Bool → Prop) : Prop :=
  K true
def VC19_l1 (g : TG) (K : Bool → Prop) (v8 : Int) (X1 : Int → Prop) : Prop :=
  (((decide (v8 < (g.2.2.2.length : Int))) = true → (inIdx v8 g.2.2.2.length ∧ (((decide ((((g.2.2.2.getD (v8).toNat ((0 : Int), ([] : LI))).2).length : Int) = (0 : Int))) = false → ((decide ((((g.2.2.2.getD (v8).toNat ((0 : Int), ([] : LI))).2).length : Int) = (1 : Int))) = true → inIdx (0 : Int) ((g.2.2.2.getD (v8).toNat ((0 : Int), ([] : LI))).2).length)) ∧ ((((decide ((((g.2.2.2.getD (v8).toNat ((0 : Int), ([] : LI))).2).length : Int) = (0 : Int))) || ((decide ((((g.2.2.2.getD (v8).toNat ((0 : Int), ([] : LI))).2).length : Int) = (1 : Int))) && (decide (g.1 ≤ (((g.2.2.2.getD (v8).toNat ((0 : Int), ([] : LI))).2).getD ((0 : Int)).toNat (0 : Int)))))) = true → K false) ∧ (((decide ((((g.2.2.2.getD (v8).toNat ((0 : Int), ([] : LI))).2).length : Int) = (0 : Int))) || ((decide ((((g.2.2.2.getD (v8).toNat ((0 : Int), ([] : LI))).2).length : Int) = (1 : Int))) && (decide (g.1 ≤ (((g.2.2.2.getD (v8).toNat ((0 : Int), ([] : LI))).2).getD ((0 : Int)).toNat (0 : Int)))))) = false → (InR (v8 + (1 : Int)) ∧ X1 (v8 + (1 : Int)))))))) ∧ ((decide (v8 < (g.2.2.2.length : Int))) = false → VC19_k1 K))
def VC19 (g : TG) (K : Bool → Prop) : Prop :=
  Loop (σ := Int) (fun s X => VC19_l1 g K s X) (0 : Int)
abbrev bfx0 (g : TG) (v8 : Int) := (((g.2.2.2.getD (v8).toNat zqb).2).length : Int)
abbrev bfx1 (g : TG) (v8 : Int) := decide ((bfx0 g v8) = (0 : Int))
abbrev bfx2 (g : TG) (v8 : Int) := decide ((bfx0 g v8) = (1 : Int))
theorem link19 (g : TG) (K : Bool → Prop) (h : VC19 g K) : ACalls Try.prog 19 [toV1 tG g] (fun res => ∃ y, res = (fun y => [toV1 .bool y]) y ∧ K y) := by
 refine acalls_of_aw [.bool] [.t 2] Try.func19 rfl rfl rfl ?_
 unfold VC19 at h
 refine qS 2 ⟨32, [sp 1 1], [e19_0 g]⟩ (aw_seq (qS 4 ⟨32, [sp 1 1, e19_1 g, e19_2 g, sI 8 (0 : Int)], [e19_0 g]⟩ (withJoin (σ := Unit) (fun s => ⟨32, [], []⟩) (fun s => VC19_k1 K) (fun s h => ?_) (fun rest1 => ?_))))
 ·have h : VC19_k1 K := h
  unfold VC19_k1 at h
  exact thenQ_n (qS 1 ⟨32, [sB 2 true], []⟩ (aw_ret (qE 1 h)))
 ·refine aw_block (aw_loop (σ := Int) (fun s => ⟨32, [sp 1 1, e19_1 g, e19_2 g, sI 8 s], [e19_0 g]⟩) (fun s X => VC19_l1 g K s X) (s0 := (0 : Int)) (fun v8 X1 h => ?_) h)
  have h : VC19_l1 g K v8 X1 := h
  unfold VC19_l1 at h
  refine qS 1 ⟨32, [sp 1 1, e19_1 g, e19_2 g, sI 8 v8, sB 9 (decide (v8 < (g.2.2.2.length : Int)))], [e19_0 g]⟩ (aw_seq (qI h (fun h => ?_) fun h => ?_))
  ·refine aw_skip (thenQ_n (aw_seq (aw_block (sr (qA 4 0 3 ⟨32, [sp 1 1, sp 4 4, e19_1 g, e19_2 g, sI 8 v8], [e19_0 g, hB 4 [.pI ((g.2.2.2.getD (v8).toNat zqb).1), .pS ((g.2.2.2.getD (v8).toNat zqb).2)]]⟩ h fun h => nn (aw_seq (awd_begin [] (by kernel_rfl) ?_)))))))
   obtain ⟨o1, h⟩ := h
   refine qD [0, 1, 2, 3, 4, 5, 6, 7, 8, 9, 10, 11, 12, 13, 14, 15, 16, 17, 18] [18, 17, 16, 15, 14, 13, 12, 11, 10, 9, 8, 7, 6, 5, 4, 3, 2, 1, 0] ⟨32, [sp 1 1, e19_1 g, e19_2 g, sI 8 v8, sB 30 ((bfx1 g v8) || ((bfx2 g v8) && (decide (g.1 ≤ (((g.2.2.2.getD (v8).toNat zqb).2).getD ((0 : Int)).toNat (0 : Int))))))], [e19_0 g]⟩ (ob := Ts 5 (Ti 5 ((bfx1 g v8) = false → True) (((bfx1 g v8) = false → ((bfx2 g v8) = true → True)) ∧ ((bfx1 g v8) = false → ((bfx2 g v8) = true → True)) ∧ ((bfx1 g v8) = false → ((bfx2 g v8) = true → inIdx (0 : Int) ((g.2.2.2.getD (v8).toNat zqb).2).length)) ∧ ((bfx1 g v8) = false → ((bfx2 g v8) = true → True)) ∧ ((bfx1 g v8) = false → ((bfx2 g v8) = true → True)) ∧ ((bfx1 g v8) = false → ((bfx2 g v8) = true → True)) ∧ ((bfx1 g v8) = false → ((bfx2 g v8) = true → True)) ∧ ((bfx1 g v8) = false → True) ∧ Ts 1 True))) (tsI 5 (tiI 5 (fun _ => trivial) (tiI 2 (fun _ _ => trivial) (⟨o1, tiI 4 (fun _ _ => trivial) ⟨(fun _ => trivial), tsI 1 trivial⟩⟩)))) ?_
   refine awd_done (by kernel_rfl) ?_
   refine thenQ_n (qI h (fun h => ?_) fun h => ?_)
   ·exact qS 1 ⟨32, [sB 2 false], []⟩ (aw_ret (blockQ_r (thenQ_r (thenQ_r (blockQ_r (thenQ_r (qE 1 h)))))))
   ·exact aw_skip (blockQ_n (thenQ_n (aw_region (qA 2 0 1 ⟨32, [sp 1 1, e19_1 g, e19_2 g, sI 8 (v8 + (1 : Int))], [e19_0 g]⟩ h fun h => awl_nil (thenQ_n ⟨(v8 + (1 : Int)), rfl, h⟩)))))
  ·exact qC ⟨32, [], []⟩ (aw_exit (thenQ_x (thenQ_x (blockQ_hit (rest1 () h)))))
-- coppicer/coppicerref.capped
def VC65 (a b : Int) (K : Int → Prop) : Prop :=
  ((((decide (a = (0 : Int))) || (decide (b = (0 : Int)))) = true → K (0 : Int)) ∧ (((decide (a = (0 : Int))) || (decide (b = (0 : Int)))) = false → ((0 ≤ (1099511627777 : Int) ∧ 0 < b) ∧ (((decide (((1099511627777 : Int) / b) < a)) = true → K (1099511627777 : Int)) ∧ ((decide (((1099511627777 : Int) / b) < a)) = false → (InR (a * b) ∧ K (a * b)))))))
theorem link65 (a b : Int) (K : Int → Prop) (h : VC65 a b K) : ACalls Try.prog 65 [toV1 tI a, toV1 tI b] (fun res => ∃ y, res = (fun y => [toV1 tI y]) y ∧ K y) := by
 refine acalls_of_aw [tI] [.t 4] Try.func65 rfl rfl rfl ?_
 unfold VC65 at h
 refine qS 1 ⟨18, [sI 0 a, sI 1 b], []⟩ (aw_seq (sr (qR 6 ⟨18, [sI 0 a, sI 1 b, sB 10 ((decide (a = (0 : Int))) || (decide (b = (0 : Int))))], []⟩ (ob := Ts 3 (Ti 2 ((decide (a = (0 : Int))) = false → True) (Ts 1 True))) (tsI 3 (tiI 2 (fun _ => trivial) (tsI 1 trivial))) ?_)))
 refine nn (qI h (fun h => ?_) fun h => ?_)
 ·exact qS 1 ⟨18, [sI 4 (0 : Int)], []⟩ (aw_ret (thenQ_r (qE 1 h)))
 ·refine aw_skip (thenQ_n (aw_seq (sr (qA 4 2 1 ⟨18, [sI 0 a, sI 1 b, sB 14 (decide (((1099511627777 : Int) / b) < a))], []⟩ h fun h => nn (qI h (fun h => ?_) fun h => ?_)))))
  ·exact qS 1 ⟨18, [sI 4 (1099511627777 : Int)], []⟩ (aw_ret (thenQ_r (qE 1 h)))
  ·exact aw_skip (thenQ_n (sr (qA 4 2 1 ⟨18, [sI 4 (a * b)], []⟩ h fun h => nn (aw_ret (qE 1 h)))))
abbrev e7_0 (c0 c1 c2 : Int) (c3 : LR) (c4 : LI) := hB 70100 [.pI c0, .pI c1, .pI c2, .p (.sl tR) c3, .pS c4, .own 70101]
abbrev e7_1 (b : LI) := sI 1 (b.getD ((0 : Int)).toNat (0 : Int))
abbrev e7_2 (c5 : Lqd) : Nat × Path × Con := (70101, [], .dict (.ar 2 tI) tI c5)
abbrev e7_3 (c3 : LR) := s1 56 (.p (.sl tR) c3)
abbrev e7_4 (l701012 : Lqd) : Nat × Path × Con := (70101, [], .dict (.ar 2 tI) tI l701012)
abbrev e7_5 (ret46v : Int × Lqd) : Nat × Path × Con := (70101, [], .dict (.ar 2 tI) tI ret46v.2)
abbrev e7_6 (l70101 : Lqd) : Nat × Path × Con := (70101, [], .dict (.ar 2 tI) tI l70101)
abbrev e7_7 := sp 156 70100
abbrev e7_8 := sp 0 70100
abbrev e7_9 (c3 : LR) := sI 57 (c3.length : Int)
abbrev e7_10 (ret46v : Int × Lqd) := sI 104 ret46v.1
abbrev e7_11 (ret78v : Int × Lqd) : Nat × Path × Con := (70101, [], .dict (.ar 2 tI) tI ret78v.2)
abbrev e7_12 (c3 : LR) (v58 : Int) := hB 12 [.pI ((c3.getD (v58).toNat zqb).1), .pS ((c3.getD (v58).toNat zqb).2)]
abbrev e7_13 (b : LI) := s1 94 (.pS b)
abbrev e7_14 := sp 63 70100
abbrev e7_15 := sp 93 70100
abbrev e7_16 (b : LI) := s1 1 (.pS b)
abbrev e7_17 (ret46v : Int × Lqd) (b : LI) (signs m : Int) := sI 9 ((mget ret46v.2 [(b.getD ((0 : Int)).toNat (0 : Int)), signs, m]).getD (0 : Int))
abbrev e7_18 (c5 : Lqd) (b : LI) (signs i : Int) := sI 9 ((mget c5 [(b.getD ((0 : Int)).toNat (0 : Int)), signs, i]).getD (0 : Int))
abbrev e7_19 (c3 : LR) (v58 : Int) := s1 75 (.pS ((c3.getD (v58).toNat zqb).2))
abbrev e7_20 := sI 8 (0 : Int)
abbrev e7_21 := sI 9 (1099511627777 : Int)
-- (*coppicer/coppicerref.Bush).Row
def VCc43_k1 (K : Int × Lqd → Prop) (v8 : Int) (l70101 : Lqd) : Prop :=
  K (v8, l70101)
def VCc43_k3 (b : LI) (signs i : Int) (K : Int × Lqd → Prop) (l70101 : Lqd) (n2 : Int) : Prop :=
  VCc43_k1 K n2 (mset l70101 [(b.getD ((0 : Int)).toNat (0 : Int)), signs, i] n2)
def VCc43_k2 (b : LI) (signs i : Int) (K : Int × Lqd → Prop) (n : Int) (l70101 : Lqd) : Prop :=
  (((decide ((1099511627776 : Int) < n)) = true → VCc43_k3 b signs i K l70101 (1099511627777 : Int)) ∧ ((decide ((1099511627776 : Int) < n)) = false → VCc43_k3 b signs i K l70101 n))
def VCc43_k4 (v58 : Int) (X1 : Int × Int × Lqd → Prop) (n2 : Int) (l701012 : Lqd) : Prop :=
  (InR (v58 + (1 : Int)) ∧ X1 (n2, (v58 + (1 : Int)), l701012))
def VCc43_l1 (c0 : Int) (c3 : LR) (R : LI → Int → Int → Lqd → (Int × Lqd → Prop) → Prop) (b : LI) (signs i : Int) (K : Int × Lqd → Prop) (n v58 : Int) (l70101 : Lqd) (X1 : Int × Int × Lqd → Prop) : Prop :=
  (((decide (v58 < (c3.length : Int))) = true → (inIdx v58 c3.length ∧ (InR ((b.getD ((0 : Int)).toNat (0 : Int)) - c0) ∧ (((decide ((c3.getD (v58).toNat ((0 : Int), ([] : LI))).1 = ((b.getD ((0 : Int)).toNat (0 : Int)) - c0))) = true → R ((c3.getD (v58).toNat ((0 : Int), ([] : LI))).2) signs i l70101 (fun (ret78v : Int × Lqd) => (InR (n + ret78v.1) ∧ VCc43_k4 v58 X1 (n + ret78v.1) ret78v.2))) ∧ ((decide ((c3.getD (v58).toNat ((0 : Int), ([] : LI))).1 = ((b.getD ((0 : Int)).toNat (0 : Int)) - c0))) = false → VCc43_k4 v58 X1 n l70101))))) ∧ ((decide (v58 < (c3.length : Int))) = false → VCc43_k2 b signs i K n l70101))
def VCc43_k5 (K : Int × Lqd → Prop) (sumv : Int) (l70101 : Lqd) : Prop :=
  K (sumv, l70101)
def VCc43_k7 (m : Int) (X2 : Int × Int × Lqd → Prop) (l701012 : Lqd) (sumv3 : Int) : Prop :=
  (InR (m + (1 : Int)) ∧ X2 (sumv3, (m + (1 : Int)), l701012))
def VCc43_k6 (m : Int) (X2 : Int × Int × Lqd → Prop) (sumv2 : Int) (l701012 : Lqd) : Prop :=
  (((decide ((1099511627776 : Int) < sumv2)) = true → VCc43_k7 m X2 l701012 (1099511627777 : Int)) ∧ ((decide ((1099511627776 : Int) < sumv2)) = false → VCc43_k7 m X2 l701012 sumv2))
def VCc43_k8 (sumv m : Int) (X2 : Int × Int × Lqd → Prop) (ret46v : Int × Lqd) (v8 : Int) (l701012 : Lqd) : Prop :=
  VC65 v8 ret46v.1 (fun (ret58v : Int) => (InR (sumv + ret58v) ∧ VCc43_k6 m X2 (sumv + ret58v) l701012))
def VCc43_k10 (b : LI) (signs sumv m : Int) (X2 : Int × Int × Lqd → Prop) (ret46v : Int × Lqd) (l701012 : Lqd) (n2 : Int) : Prop :=
  VCc43_k8 sumv m X2 ret46v n2 (mset l701012 [(b.getD ((0 : Int)).toNat (0 : Int)), signs, m] n2)
def VCc43_k9 (b : LI) (signs sumv m : Int) (X2 : Int × Int × Lqd → Prop) (ret46v : Int × Lqd) (n : Int) (l701012 : Lqd) : Prop :=
  (((decide ((1099511627776 : Int) < n)) = true → VCc43_k10 b signs sumv m X2 ret46v l701012 (1099511627777 : Int)) ∧ ((decide ((1099511627776 : Int) < n)) = false → VCc43_k10 b signs sumv m X2 ret46v l701012 n))
def VCc43_k11 (v58 : Int) (X3 : Int × Int × Lqd → Prop) (n2 : Int) (l701013 : Lqd) : Prop :=
  (InR (v58 + (1 : Int)) ∧ X3 (n2, (v58 + (1 : Int)), l701013))
def VCc43_l3 (c0 : Int) (c3 : LR) (R : LI → Int → Int → Lqd → (Int × Lqd → Prop) → Prop) (b : LI) (signs sumv m : Int) (X2 : Int × Int × Lqd → Prop) (ret46v : Int × Lqd) (n v58 : Int) (l701012 : Lqd) (X3 : Int × Int × Lqd → Prop) : Prop :=
  (((decide (v58 < (c3.length : Int))) = true → (inIdx v58 c3.length ∧ (InR ((b.getD ((0 : Int)).toNat (0 : Int)) - c0) ∧ (((decide ((c3.getD (v58).toNat ((0 : Int), ([] : LI))).1 = ((b.getD ((0 : Int)).toNat (0 : Int)) - c0))) = true → R ((c3.getD (v58).toNat ((0 : Int), ([] : LI))).2) signs m l701012 (fun (ret78v : Int × Lqd) => (InR (n + ret78v.1) ∧ VCc43_k11 v58 X3 (n + ret78v.1) ret78v.2))) ∧ ((decide ((c3.getD (v58).toNat ((0 : Int), ([] : LI))).1 = ((b.getD ((0 : Int)).toNat (0 : Int)) - c0))) = false → VCc43_k11 v58 X3 n l701012))))) ∧ ((decide (v58 < (c3.length : Int))) = false → VCc43_k9 b signs sumv m X2 ret46v n l701012))
def VCc43_l2 (c0 : Int) (c3 : LR) (c4 : LI) (R : LI → Int → Int → Lqd → (Int × Lqd → Prop) → Prop) (b : LI) (signs i : Int) (K : Int × Lqd → Prop) (sumv m : Int) (l70101 : Lqd) (X2 : Int × Int × Lqd → Prop) : Prop :=
  (((decide (m < i)) = true → ((0 ≤ (1 : Int) ∧ (1 : Int) ≤ (b.length : Int)) ∧ R (b.drop ((1 : Int)).toNat) m i l70101 (fun (ret46v : Int × Lqd) => (((decide ((0 : Int) < ret46v.1)) = true → (inIdx (0 : Int) b.length ∧ (((decide ((b.getD ((0 : Int)).toNat (0 : Int)) < c0)) = true → (InR (signs + (1 : Int)) ∧ ((decide (m = (signs + (1 : Int)))) = true → inIdx signs c4.length) ∧ ((((decide (m = (signs + (1 : Int)))) && (decide ((c4.getD (signs).toNat (0 : Int)) = (b.getD ((0 : Int)).toNat (0 : Int))))) = true → VCc43_k8 sumv m X2 ret46v (1 : Int) ret46v.2) ∧ (((decide (m = (signs + (1 : Int)))) && (decide ((c4.getD (signs).toNat (0 : Int)) = (b.getD ((0 : Int)).toNat (0 : Int))))) = false → VCc43_k8 sumv m X2 ret46v (0 : Int) ret46v.2)))) ∧ ((decide ((b.getD ((0 : Int)).toNat (0 : Int)) < c0)) = false → (((decide (signs = m)) = true → VCc43_k8 sumv m X2 ret46v (0 : Int) ret46v.2) ∧ ((decide (signs = m)) = false → (((mget ret46v.2 [(b.getD ((0 : Int)).toNat (0 : Int)), signs, m]).isSome = true → VCc43_k8 sumv m X2 ret46v ((mget ret46v.2 [(b.getD ((0 : Int)).toNat (0 : Int)), signs, m]).getD (0 : Int)) ret46v.2) ∧ ((mget ret46v.2 [(b.getD ((0 : Int)).toNat (0 : Int)), signs, m]).isSome = false → Loop (σ := Int × Int × Lqd) (fun s X => VCc43_l3 c0 c3 R b signs sumv m X2 ret46v s.1 s.2.1 s.2.2 X) (((mget ret46v.2 [(b.getD ((0 : Int)).toNat (0 : Int)), signs, m]).getD (0 : Int)), (0 : Int), ret46v.2))))))))) ∧ ((decide ((0 : Int) < ret46v.1)) = false → VCc43_k6 m X2 sumv ret46v.2))))) ∧ ((decide (m < i)) = false → VCc43_k5 K sumv l70101))
def VCc43 (c0 c1 c2 : Int) (c3 : LR) (c4 : LI) (R : LI → Int → Int → Lqd → (Int × Lqd → Prop) → Prop) (b : LI) (signs i : Int) (c5 : Lqd) (K : Int × Lqd → Prop) : Prop :=
  (InR (i - signs) ∧ (((decide ((i - signs) < (b.length : Int))) = true → K ((0 : Int), c5)) ∧ ((decide ((i - signs) < (b.length : Int))) = false → (((decide ((b.length : Int) = (0 : Int))) = true → (((decide (signs = i)) = true → K ((1 : Int), c5)) ∧ ((decide (signs = i)) = false → K ((0 : Int), c5)))) ∧ ((decide ((b.length : Int) = (0 : Int))) = false → (((decide ((b.length : Int) = (1 : Int))) = true → (inIdx (0 : Int) b.length ∧ (((decide ((b.getD ((0 : Int)).toNat (0 : Int)) < c0)) = true → (InR (signs + (1 : Int)) ∧ ((decide (i = (signs + (1 : Int)))) = true → inIdx signs c4.length) ∧ ((((decide (i = (signs + (1 : Int)))) && (decide ((c4.getD (signs).toNat (0 : Int)) = (b.getD ((0 : Int)).toNat (0 : Int))))) = true → VCc43_k1 K (1 : Int) c5) ∧ (((decide (i = (signs + (1 : Int)))) && (decide ((c4.getD (signs).toNat (0 : Int)) = (b.getD ((0 : Int)).toNat (0 : Int))))) = false → VCc43_k1 K (0 : Int) c5)))) ∧ ((decide ((b.getD ((0 : Int)).toNat (0 : Int)) < c0)) = false → (((decide (signs = i)) = true → VCc43_k1 K (0 : Int) c5) ∧ ((decide (signs = i)) = false → (((mget c5 [(b.getD ((0 : Int)).toNat (0 : Int)), signs, i]).isSome = true → VCc43_k1 K ((mget c5 [(b.getD ((0 : Int)).toNat (0 : Int)), signs, i]).getD (0 : Int)) c5) ∧ ((mget c5 [(b.getD ((0 : Int)).toNat (0 : Int)), signs, i]).isSome = false → Loop (σ := Int × Int × Lqd) (fun s X => VCc43_l1 c0 c3 R b signs i K s.1 s.2.1 s.2.2 X) (((mget c5 [(b.getD ((0 : Int)).toNat (0 : Int)), signs, i]).getD (0 : Int)), (0 : Int), c5))))))))) ∧ ((decide ((b.length : Int) = (1 : Int))) = false → (InR (signs + (1 : Int)) ∧ Loop (σ := Int × Int × Lqd) (fun s X => VCc43_l2 c0 c3 c4 R b signs i K s.1 s.2.1 s.2.2 X) ((0 : Int), (signs + (1 : Int)), c5)))))))))
abbrev bhx0 (b : LI) := b.getD ((0 : Int)).toNat (0 : Int)
abbrev bhx1 (c3 : LR) (v58 : Int) := c3.getD (v58).toNat zqb
theorem linkc43 (c0 c1 c2 : Int) (c3 : LR) (c4 : LI) (R : LI → Int → Int → Lqd → (Int × Lqd → Prop) → Prop) (hR : ∀ (b : LI) (signs i : Int) (c5 : Lqd) (K : Int × Lqd → Prop), R b signs i c5 K → LCalls Try.prog 43 [70100, 70101] [70100] [e7_0 c0 c1 c2 c3 c4, e7_2 c5] [.c (.ptr 70100 0), .c (.pS b), .c (.pI signs), .c (.pI i)] (fun av hp' => ∃ y : Int × Lqd, av = .v (.c (.pI y.1)) ∧ hp' = [e7_0 c0 c1 c2 c3 c4, (70101, [], .dict (.ar 2 tI) tI y.2)] ∧ K y)) (b : LI) (signs i : Int) (c5 : Lqd) (K : Int × Lqd → Prop) (h : VCc43 c0 c1 c2 c3 c4 R b signs i c5 K) : LCalls Try.prog 43 [70100, 70101] [70100] [e7_0 c0 c1 c2 c3 c4, e7_2 c5] [.c (.ptr 70100 0), .c (.pS b), .c (.pI signs), .c (.pI i)] (fun av hp' => ∃ y : Int × Lqd, av = .v (.c (.pI y.1)) ∧ hp' = [e7_0 c0 c1 c2 c3 c4, (70101, [], .dict (.ar 2 tI) tI y.2)] ∧ K y) := by
 refine lcalls_of_aw [70100, 70101] [70100] [.t 8] Try.func43 rfl rfl (by kernel_rfl) (by kernel_rfl) (by kernel_rfl) ?_
 refine qV [] ⟨63, [e7_8, e7_16 b, sI 2 signs, sI 3 i, e7_14], [e7_0 c0 c1 c2 c3 c4, e7_2 c5]⟩ ?_
 unfold VCc43 at h
 refine qS 1 ⟨63, [e7_8, e7_16 b, sI 2 signs, sI 3 i, e7_14], [e7_0 c0 c1 c2 c3 c4, e7_2 c5]⟩ (aw_seq (sr (qA 6 4 1 ⟨63, [e7_8, e7_16 b, sI 2 signs, sI 3 i, sB 17 (decide ((i - signs) < (b.length : Int))), e7_14], [e7_0 c0 c1 c2 c3 c4, e7_2 c5]⟩ h fun h => nn (qI h (fun h => ?_) fun h => ?_))))
 ·exact qS 1 ⟨63, [e7_20, e7_14], [e7_0 c0 c1 c2 c3 c4, e7_2 c5]⟩ (aw_ret (thenQ_r (lret_r (σ := Int × Lqd) (A := fun y => .v (.c (.pI y.1))) (H := fun y => [e7_0 c0 c1 c2 c3 c4, (70101, [], .dict (.ar 2 tI) tI y.2)]) (ob := True) ((0 : Int), c5) (by kernel_rfl) trivial rfl (by kernel_rfl) (by kernel_rfl) (by kernel_rfl) h)))
 ·refine aw_skip (thenQ_n (aw_seq (qS 3 ⟨63, [e7_8, e7_16 b, sI 2 signs, sI 3 i, sB 20 (decide ((b.length : Int) = (0 : Int))), e7_14], [e7_0 c0 c1 c2 c3 c4, e7_2 c5]⟩ (qI h (fun h => ?_) fun h => ?_))))
  ·refine aw_seq (qS 3 ⟨63, [sB 23 (decide (signs = i)), e7_14], [e7_0 c0 c1 c2 c3 c4, e7_2 c5]⟩ (qI h (fun h => ?_) fun h => ?_))
   ·exact qS 1 ⟨63, [sI 8 (1 : Int), e7_14], [e7_0 c0 c1 c2 c3 c4, e7_2 c5]⟩ (aw_ret (thenQ_r (thenQ_r (lret_r (σ := Int × Lqd) (A := fun y => .v (.c (.pI y.1))) (H := fun y => [e7_0 c0 c1 c2 c3 c4, (70101, [], .dict (.ar 2 tI) tI y.2)]) (ob := True) ((1 : Int), c5) (by kernel_rfl) trivial rfl (by kernel_rfl) (by kernel_rfl) (by kernel_rfl) h))))
   ·exact aw_skip (thenQ_n (qS 1 ⟨63, [e7_20, e7_14], [e7_0 c0 c1 c2 c3 c4, e7_2 c5]⟩ (aw_ret (thenQ_r (lret_r (σ := Int × Lqd) (A := fun y => .v (.c (.pI y.1))) (H := fun y => [e7_0 c0 c1 c2 c3 c4, (70101, [], .dict (.ar 2 tI) tI y.2)]) (ob := True) ((0 : Int), c5) (by kernel_rfl) trivial rfl (by kernel_rfl) (by kernel_rfl) (by kernel_rfl) h)))))
  ·refine aw_skip (thenQ_n (aw_seq (qS 3 ⟨63, [e7_8, e7_16 b, sI 2 signs, sI 3 i, sB 26 (decide ((b.length : Int) = (1 : Int))), e7_14], [e7_0 c0 c1 c2 c3 c4, e7_2 c5]⟩ (qI h (fun h => ?_) fun h => ?_))))
   ·refine sr (qA 6 2 3 ⟨63, [sp 27 70100, sI 30 (bhx0 b), sI 31 signs, sI 32 i, e7_14], [e7_0 c0 c1 c2 c3 c4, e7_2 c5]⟩ h fun h => awl_inlr [.t 8] [70100, 70101] [.c (.ptr 70100 0), .c (.pI (bhx0 b)), .c (.pI signs), .c (.pI i)] [] rfl rfl (by kernel_rfl) rfl (by kernel_rfl) Try.call21 (by kernel_rfl) (by kernel_rfl) Try.func21 rfl rfl (by kernel_rfl) ?_)
    refine qV [] ⟨93, [e7_8, e7_1 b, sI 2 signs, sI 3 i, sp 120 70100, sI 123 (bhx0 b), sI 124 signs, sI 125 i, e7_7], [e7_0 c0 c1 c2 c3 c4, e7_2 c5]⟩ (withJoinR (σ := Int × Lqd) (fun s => ⟨93, [sI 8 s.1, e7_7], [e7_0 c0 c1 c2 c3 c4, (70101, [], .dict (.ar 2 tI) tI s.2)]⟩) (fun s => VCc43_k1 K s.1 s.2) (fun s h => ?_) (fun rest1 => ?_))
    ·obtain ⟨v8, l70101⟩ := s
     have h : VCc43_k1 K v8 l70101 := h
     unfold VCc43_k1 at h
     refine inlR_n (ob := True) (.v (.c (.pI v8))) (by kernel_rfl) trivial rfl ?_
     exact qL ⟨63, [sI 33 v8, e7_14], [e7_0 c0 c1 c2 c3 c4, e7_6 l70101]⟩ (qT 1 ⟨63, [sI 8 v8, e7_14], [e7_0 c0 c1 c2 c3 c4, e7_6 l70101]⟩ (nn (aw_ret (thenQ_r (lret_r (σ := Int × Lqd) (A := fun y => .v (.c (.pI y.1))) (H := fun y => [e7_0 c0 c1 c2 c3 c4, (70101, [], .dict (.ar 2 tI) tI y.2)]) (ob := True) (v8, l70101) (by kernel_rfl) trivial rfl (by kernel_rfl) (by kernel_rfl) (by kernel_rfl) h)))))
    ·refine qS 1 ⟨93, [e7_8, e7_1 b, sI 2 signs, sI 3 i, e7_7], [e7_0 c0 c1 c2 c3 c4, e7_2 c5]⟩ (aw_seq (qS 7 ⟨93, [e7_8, e7_1 b, sI 2 signs, sI 3 i, sB 19 (decide ((bhx0 b) < c0)), e7_7], [e7_0 c0 c1 c2 c3 c4, e7_2 c5]⟩ (qI h (fun h => ?_) fun h => ?_)))
     ·refine aw_seq (sr ?_)
      obtain ⟨o1, o2, h⟩ := h
      refine qR 15 ⟨93, [sB 34 ((decide (i = (signs + (1 : Int)))) && (decide ((c4.getD (signs).toNat (0 : Int)) = (bhx0 b)))), e7_7], [e7_0 c0 c1 c2 c3 c4, e7_2 c5]⟩ (ob := Ts 2 (InR (signs + (1 : Int)) ∧ Ts 2 (Ti 5 ((decide (i = (signs + (1 : Int)))) = true → True) (((decide (i = (signs + (1 : Int)))) = true → inIdx signs c4.length) ∧ Ti 3 ((decide (i = (signs + (1 : Int)))) = true → True) (Ts 1 True))))) (tsI 2 (⟨o1, tsI 2 (tiI 5 (fun _ => trivial) ⟨o2, tiI 3 (fun _ => trivial) (tsI 1 trivial)⟩)⟩)) ?_
      refine nn (qI h (fun h => ?_) fun h => ?_)
      ·exact qS 1 ⟨93, [sI 8 (1 : Int), e7_7], [e7_0 c0 c1 c2 c3 c4, e7_2 c5]⟩ (aw_ret (thenQ_r (thenQ_r (rest1 ((1 : Int), c5) h))))
      ·exact aw_skip (thenQ_n (qS 1 ⟨93, [e7_20, e7_7], [e7_0 c0 c1 c2 c3 c4, e7_2 c5]⟩ (aw_ret (thenQ_r (rest1 ((0 : Int), c5) h)))))
     ·refine aw_skip (thenQ_n (aw_seq (qS 3 ⟨93, [e7_8, e7_1 b, sI 2 signs, sI 3 i, sB 37 (decide (signs = i)), e7_7], [e7_0 c0 c1 c2 c3 c4, e7_2 c5]⟩ (qI h (fun h => ?_) fun h => ?_))))
      ·exact qS 1 ⟨93, [e7_20, e7_7], [e7_0 c0 c1 c2 c3 c4, e7_2 c5]⟩ (aw_ret (thenQ_r (rest1 ((0 : Int), c5) h)))
      ·refine aw_skip (thenQ_n (qS 14 ⟨93, [e7_8, e7_1 b, sI 2 signs, sI 3 i, e7_18 c5 b signs i, sB 10 ((mget c5 [(bhx0 b), signs, i]).isSome), e7_7], [e7_0 c0 c1 c2 c3 c4, e7_2 c5]⟩ (aw_seq (qS 1 ⟨93, [e7_8, e7_1 b, sI 2 signs, sI 3 i, e7_18 c5 b signs i, sB 50 ((mget c5 [(bhx0 b), signs, i]).isSome), e7_7], [e7_0 c0 c1 c2 c3 c4, e7_2 c5]⟩ (qI h (fun h => ?_) fun h => ?_)))))
       ·exact qS 2 ⟨93, [sI 8 ((mget c5 [(bhx0 b), signs, i]).getD (0 : Int)), e7_7], [e7_0 c0 c1 c2 c3 c4, e7_2 c5]⟩ (aw_ret (thenQ_r (rest1 (((mget c5 [(bhx0 b), signs, i]).getD (0 : Int)), c5) h)))
       ·refine aw_skip (thenQ_n (aw_seq (qS 7 ⟨93, [e7_8, e7_1 b, sI 2 signs, sI 3 i, e7_18 c5 b signs i, e7_3 c3, e7_9 c3, sI 58 (0 : Int), e7_7], [e7_0 c0 c1 c2 c3 c4, e7_2 c5]⟩ (withJoin (σ := Int × Lqd) (fun s => ⟨93, [e7_8, e7_1 b, sI 2 signs, sI 3 i, sI 9 s.1, e7_7], [e7_0 c0 c1 c2 c3 c4, (70101, [], .dict (.ar 2 tI) tI s.2)]⟩) (fun s => VCc43_k2 b signs i K s.1 s.2) (fun s h => ?_) (fun rest3 => ?_)))))
        ·obtain ⟨n, l70101⟩ := s
         have h : VCc43_k2 b signs i K n l70101 := h
         unfold VCc43_k2 at h
         refine thenQ_n (aw_seq (qS 2 ⟨93, [e7_8, e7_1 b, sI 2 signs, sI 3 i, sI 9 n, sB 82 (decide ((1099511627776 : Int) < n)), e7_7], [e7_0 c0 c1 c2 c3 c4, e7_6 l70101]⟩ (withJoin (σ := Int) (fun s => ⟨93, [e7_8, e7_1 b, sI 2 signs, sI 3 i, sI 9 s, e7_7], [e7_0 c0 c1 c2 c3 c4, e7_6 l70101]⟩) (fun s => VCc43_k3 b signs i K l70101 s) (fun n2 h => ?_) (fun rest2 => ?_))))
         ·have h : VCc43_k3 b signs i K l70101 n2 := h
          unfold VCc43_k3 at h
          exact thenQ_n (sr (qT 10 ⟨93, [sI 9 n2, e7_7], [e7_0 c0 c1 c2 c3 c4, (70101, [], .dict (.ar 2 tI) tI (mset l70101 [(bhx0 b), signs, i] n2))]⟩ (nsr (qT 2 ⟨93, [sI 8 n2, e7_7], [e7_0 c0 c1 c2 c3 c4, (70101, [], .dict (.ar 2 tI) tI (mset l70101 [(bhx0 b), signs, i] n2))]⟩ (nn (aw_ret (rest1 (n2, (mset l70101 [(bhx0 b), signs, i] n2)) h)))))))
         ·refine qI h (fun h => ?_) fun h => ?_
          ·exact aw_region (qT 1 ⟨93, [e7_8, e7_1 b, sI 2 signs, sI 3 i, e7_21, e7_7], [e7_0 c0 c1 c2 c3 c4, e7_6 l70101]⟩ (awl_nil (rest2 (1099511627777 : Int) h)))
          ·exact qC ⟨93, [e7_8, e7_1 b, sI 2 signs, sI 3 i, sI 9 n, e7_7], [e7_0 c0 c1 c2 c3 c4, e7_6 l70101]⟩ (aw_skip (rest2 n h))
        ·refine aw_block (aw_loop (σ := Int × Int × Lqd) (fun s => ⟨93, [e7_8, e7_1 b, sI 2 signs, sI 3 i, sI 9 s.1, e7_3 c3, e7_9 c3, sI 58 s.2.1, e7_7], [e7_0 c0 c1 c2 c3 c4, (70101, [], .dict (.ar 2 tI) tI s.2.2)]⟩) (fun s X => VCc43_l1 c0 c3 R b signs i K s.1 s.2.1 s.2.2 X) (s0 := (((mget c5 [(bhx0 b), signs, i]).getD (0 : Int)), (0 : Int), c5)) (fun s X1 h => ?_) h)
         obtain ⟨n, v58, l70101⟩ := s
         have h : VCc43_l1 c0 c3 R b signs i K n v58 l70101 X1 := h
         unfold VCc43_l1 at h
         refine qS 1 ⟨93, [e7_8, e7_1 b, sI 2 signs, sI 3 i, sI 9 n, e7_3 c3, e7_9 c3, sI 58 v58, sB 59 (decide (v58 < (c3.length : Int))), e7_7], [e7_0 c0 c1 c2 c3 c4, e7_6 l70101]⟩ (aw_seq (qI h (fun h => ?_) fun h => ?_))
         ·refine aw_skip (thenQ_n (aw_seq (aw_block (sr (qA 4 0 3 ⟨93, [e7_8, e7_1 b, sI 2 signs, sI 3 i, sI 9 n, sp 12 12, e7_3 c3, e7_9 c3, sI 58 v58, e7_7], [e7_12 c3 v58, e7_0 c0 c1 c2 c3 c4, e7_6 l70101]⟩ h fun h => nn (aw_seq (awd_begin [] (by kernel_rfl) ?_)))))))
          obtain ⟨o1, h⟩ := h
          refine qDO 8 1 [0, 1, 2, 3, 4, 5, 6, 7, 8, 9] [9, 8, 7, 6, 5, 4, 3, 2, 1, 0] ⟨93, [e7_8, e7_1 b, sI 2 signs, sI 3 i, sI 9 n, sp 12 12, e7_3 c3, e7_9 c3, sI 58 v58, sB 71 (decide ((bhx1 c3 v58).1 = ((bhx0 b) - c0))), e7_7], [e7_12 c3 v58, e7_0 c0 c1 c2 c3 c4, e7_6 l70101]⟩ o1 (awd_done (by kernel_rfl) ?_)
          refine thenQ_n (withJoin (σ := Int × Lqd) (fun s => ⟨93, [e7_8, e7_1 b, sI 2 signs, sI 3 i, sI 9 s.1, e7_3 c3, e7_9 c3, sI 58 v58, e7_7], [e7_0 c0 c1 c2 c3 c4, (70101, [], .dict (.ar 2 tI) tI s.2)]⟩) (fun s => VCc43_k4 v58 X1 s.1 s.2) (fun s h => ?_) (fun rest4 => ?_))
          ·obtain ⟨n2, l701012⟩ := s
           have h : VCc43_k4 v58 X1 n2 l701012 := h
           unfold VCc43_k4 at h
           exact blockQ_n (thenQ_n (aw_region (qA 2 0 1 ⟨93, [e7_8, e7_1 b, sI 2 signs, sI 3 i, sI 9 n2, e7_3 c3, e7_9 c3, sI 58 (v58 + (1 : Int)), e7_7], [e7_0 c0 c1 c2 c3 c4, e7_4 l701012]⟩ h fun h => awl_nil (thenQ_n ⟨(n2, (v58 + (1 : Int)), l701012), rfl, h⟩))))
          ·refine qI h (fun h => ?_) fun h => ?_
           ·refine aw_region (qT 6 ⟨93, [e7_8, e7_1 b, sI 2 signs, sI 3 i, e7_3 c3, e7_9 c3, sI 58 v58, sI 72 n, sp 73 70100, e7_19 c3 v58, sI 76 signs, sI 77 i, e7_7], [e7_0 c0 c1 c2 c3 c4, e7_6 l70101]⟩ (awl_lcall (σ := Int × Lqd) [70100, 70101] [70100] [.c (.ptr 70100 0), .c (.pS ((bhx1 c3 v58).2)), .c (.pI signs), .c (.pI i)] [] (fun ret78v => .v (.c (.pI ret78v.1))) (fun ret78v => [e7_0 c0 c1 c2 c3 c4, e7_11 ret78v]) (_) [e7_0 c0 c1 c2 c3 c4, e7_6 l70101] (fun ret78v => ⟨93, [sI 78 ret78v.1, e7_8, e7_1 b, sI 2 signs, sI 3 i, e7_3 c3, e7_9 c3, sI 58 v58, sI 72 n, sp 73 70100, e7_19 c3 v58, sI 76 signs, sI 77 i, e7_7], [e7_0 c0 c1 c2 c3 c4, e7_11 ret78v]⟩) rfl rfl (by kernel_rfl) rfl (by kernel_rfl) Try.call43 (by kernel_rfl) (by kernel_rfl) (by kernel_rfl) (fun _ _ => rfl) (fun _ => by kernel_rfl) (hR ((bhx1 c3 v58).2) signs i l70101 _ h) (fun ret78v h => ?_)))
            exact qL ⟨93, [e7_8, e7_1 b, sI 2 signs, sI 3 i, e7_3 c3, e7_9 c3, sI 58 v58, sI 72 n, sI 78 ret78v.1, e7_7], [e7_0 c0 c1 c2 c3 c4, e7_11 ret78v]⟩ (qA 2 0 1 ⟨93, [e7_8, e7_1 b, sI 2 signs, sI 3 i, sI 9 (n + ret78v.1), e7_3 c3, e7_9 c3, sI 58 v58, e7_7], [e7_0 c0 c1 c2 c3 c4, e7_11 ret78v]⟩ h fun h => awl_nil (rest4 ((n + ret78v.1), ret78v.2) h))
           ·exact qC ⟨93, [e7_8, e7_1 b, sI 2 signs, sI 3 i, sI 9 n, e7_3 c3, e7_9 c3, sI 58 v58, e7_7], [e7_0 c0 c1 c2 c3 c4, e7_6 l70101]⟩ (aw_skip (rest4 (n, l70101) h))
         ·exact qC ⟨93, [e7_8, e7_1 b, sI 2 signs, sI 3 i, sI 9 n, e7_7], [e7_0 c0 c1 c2 c3 c4, e7_6 l70101]⟩ (aw_exit (thenQ_x (thenQ_x (blockQ_hit (rest3 (n, l70101) h)))))
   ·refine aw_skip (thenQ_n (qS 1 ⟨63, [e7_8, e7_16 b, sI 2 signs, sI 3 i, sI 9 (0 : Int), e7_14], [e7_0 c0 c1 c2 c3 c4, e7_2 c5]⟩ (aw_seq (sr (qA 3 1 1 ⟨63, [e7_8, e7_16 b, sI 2 signs, sI 3 i, sI 9 (0 : Int), sI 10 (signs + (1 : Int)), e7_14], [e7_0 c0 c1 c2 c3 c4, e7_2 c5]⟩ h fun h => nn (withJoin (σ := Int × Lqd) (fun s => ⟨63, [sI 9 s.1, e7_14], [e7_0 c0 c1 c2 c3 c4, (70101, [], .dict (.ar 2 tI) tI s.2)]⟩) (fun s => VCc43_k5 K s.1 s.2) (fun s h => ?_) (fun rest5 => ?_)))))))
    ·obtain ⟨sumv, l70101⟩ := s
     have h : VCc43_k5 K sumv l70101 := h
     unfold VCc43_k5 at h
     exact thenQ_n (qS 2 ⟨63, [sI 8 sumv, e7_14], [e7_0 c0 c1 c2 c3 c4, e7_6 l70101]⟩ (aw_ret (lret_r (σ := Int × Lqd) (A := fun y => .v (.c (.pI y.1))) (H := fun y => [e7_0 c0 c1 c2 c3 c4, (70101, [], .dict (.ar 2 tI) tI y.2)]) (ob := True) (sumv, l70101) (by kernel_rfl) trivial rfl (by kernel_rfl) (by kernel_rfl) (by kernel_rfl) h)))
    ·refine aw_block (aw_loop (σ := Int × Int × Lqd) (fun s => ⟨63, [e7_8, e7_16 b, sI 2 signs, sI 3 i, sI 9 s.1, sI 10 s.2.1, e7_14], [e7_0 c0 c1 c2 c3 c4, (70101, [], .dict (.ar 2 tI) tI s.2.2)]⟩) (fun s X => VCc43_l2 c0 c3 c4 R b signs i K s.1 s.2.1 s.2.2 X) (s0 := ((0 : Int), (signs + (1 : Int)), c5)) (fun s X2 h => ?_) h)
     obtain ⟨sumv, m, l70101⟩ := s
     have h : VCc43_l2 c0 c3 c4 R b signs i K sumv m l70101 X2 := h
     unfold VCc43_l2 at h
     refine aw_seq (qS 3 ⟨63, [e7_8, e7_16 b, sI 2 signs, sI 3 i, sI 9 sumv, sI 10 m, sB 38 (decide (m < i)), e7_14], [e7_0 c0 c1 c2 c3 c4, e7_6 l70101]⟩ (qI h (fun h => ?_) fun h => ?_))
     ·refine aw_skip (thenQ_n (aw_seq (aw_block (sr (qA 5 2 2 ⟨63, [e7_8, e7_16 b, sI 2 signs, sI 3 i, sI 9 sumv, sI 10 m, sp 41 70100, s1 43 (.pS (b.drop ((1 : Int)).toNat)), sI 44 m, sI 45 i, e7_14], [e7_0 c0 c1 c2 c3 c4, e7_6 l70101]⟩ h fun h => awl_lcall (σ := Int × Lqd) [70100, 70101] [70100] [.c (.ptr 70100 0), .c (.pS (b.drop ((1 : Int)).toNat)), .c (.pI m), .c (.pI i)] [] (fun ret46v => .v (.c (.pI ret46v.1))) (fun ret46v => [e7_0 c0 c1 c2 c3 c4, e7_5 ret46v]) (_) [e7_0 c0 c1 c2 c3 c4, e7_6 l70101] (fun ret46v => ⟨63, [sI 46 ret46v.1, e7_8, e7_16 b, sI 2 signs, sI 3 i, sI 9 sumv, sI 10 m, sp 41 70100, s1 43 (.pS (b.drop ((1 : Int)).toNat)), sI 44 m, sI 45 i, e7_14], [e7_0 c0 c1 c2 c3 c4, e7_5 ret46v]⟩) rfl rfl (by kernel_rfl) rfl (by kernel_rfl) Try.call43 (by kernel_rfl) (by kernel_rfl) (by kernel_rfl) (fun _ _ => rfl) (fun _ => by kernel_rfl) (hR (b.drop ((1 : Int)).toNat) m i l70101 _ h) (fun ret46v h => ?_))))))
      refine qL ⟨63, [e7_8, e7_16 b, sI 2 signs, sI 3 i, sI 9 sumv, sI 10 m, sI 46 ret46v.1, e7_14], [e7_0 c0 c1 c2 c3 c4, e7_5 ret46v]⟩ (qT 1 ⟨63, [e7_8, e7_16 b, sI 2 signs, sI 3 i, sI 9 sumv, sI 10 m, sI 11 ret46v.1, e7_14], [e7_0 c0 c1 c2 c3 c4, e7_5 ret46v]⟩ (nn (aw_seq (qS 2 ⟨63, [e7_8, e7_16 b, sI 2 signs, sI 3 i, sI 9 sumv, sI 10 m, sI 11 ret46v.1, sB 48 (decide ((0 : Int) < ret46v.1)), e7_14], [e7_0 c0 c1 c2 c3 c4, e7_5 ret46v]⟩ (withJoin (σ := Int × Lqd) (fun s => ⟨63, [e7_8, e7_16 b, sI 2 signs, sI 3 i, sI 9 s.1, sI 10 m, e7_14], [e7_0 c0 c1 c2 c3 c4, (70101, [], .dict (.ar 2 tI) tI s.2)]⟩) (fun s => VCc43_k6 m X2 s.1 s.2) (fun s h => ?_) (fun rest7 => ?_))))))
      ·obtain ⟨sumv2, l701012⟩ := s
       have h : VCc43_k6 m X2 sumv2 l701012 := h
       unfold VCc43_k6 at h
       refine thenQ_n (qS 2 ⟨63, [e7_8, e7_16 b, sI 2 signs, sI 3 i, sI 9 sumv2, sI 10 m, sB 61 (decide ((1099511627776 : Int) < sumv2)), e7_14], [e7_0 c0 c1 c2 c3 c4, e7_4 l701012]⟩ (withJoin (σ := Int) (fun s => ⟨63, [e7_8, e7_16 b, sI 2 signs, sI 3 i, sI 9 s, sI 10 m, e7_14], [e7_0 c0 c1 c2 c3 c4, e7_4 l701012]⟩) (fun s => VCc43_k7 m X2 l701012 s) (fun sumv3 h => ?_) (fun rest6 => ?_)))
       ·have h : VCc43_k7 m X2 l701012 sumv3 := h
        unfold VCc43_k7 at h
        exact blockQ_n (thenQ_n (aw_region (qA 3 1 1 ⟨63, [e7_8, e7_16 b, sI 2 signs, sI 3 i, sI 9 sumv3, sI 10 (m + (1 : Int)), e7_14], [e7_0 c0 c1 c2 c3 c4, e7_4 l701012]⟩ h fun h => awl_nil (thenQ_n ⟨(sumv3, (m + (1 : Int)), l701012), rfl, h⟩))))
       ·refine qI h (fun h => ?_) fun h => ?_
        ·exact aw_region (qT 1 ⟨63, [e7_8, e7_16 b, sI 2 signs, sI 3 i, e7_21, sI 10 m, e7_14], [e7_0 c0 c1 c2 c3 c4, e7_4 l701012]⟩ (awl_nil (rest6 (1099511627777 : Int) h)))
        ·exact qC ⟨63, [e7_8, e7_16 b, sI 2 signs, sI 3 i, sI 9 sumv2, sI 10 m, e7_14], [e7_0 c0 c1 c2 c3 c4, e7_4 l701012]⟩ (aw_skip (rest6 sumv2 h))
      ·refine qI h (fun h => ?_) fun h => ?_
       ·refine aw_region (qA 7 3 3 ⟨63, [e7_8, e7_16 b, sI 2 signs, sI 3 i, sI 10 m, sI 11 ret46v.1, sI 49 sumv, sp 50 70100, sI 53 (bhx0 b), sI 54 signs, sI 55 m, e7_14], [e7_0 c0 c1 c2 c3 c4, e7_5 ret46v]⟩ h fun h => awl_inlr [.t 8] [70100, 70101] [.c (.ptr 70100 0), .c (.pI (bhx0 b)), .c (.pI signs), .c (.pI m)] [] rfl rfl (by kernel_rfl) rfl (by kernel_rfl) Try.call21 (by kernel_rfl) (by kernel_rfl) Try.func21 rfl rfl (by kernel_rfl) ?_)
        refine qV [] ⟨93, [e7_8, e7_1 b, sI 2 signs, sI 3 m, e7_15, e7_13 b, sI 95 signs, sI 96 i, sI 103 m, e7_10 ret46v, sI 142 sumv, sp 143 70100, sI 146 (bhx0 b), sI 147 signs, sI 148 m, e7_7], [e7_0 c0 c1 c2 c3 c4, e7_5 ret46v]⟩ (withJoinR (σ := Int × Lqd) (fun s => ⟨93, [sI 8 s.1, e7_15, e7_13 b, sI 95 signs, sI 96 i, sI 103 m, e7_10 ret46v, sI 142 sumv, e7_7], [e7_0 c0 c1 c2 c3 c4, (70101, [], .dict (.ar 2 tI) tI s.2)]⟩) (fun s => VCc43_k8 sumv m X2 ret46v s.1 s.2) (fun s h => ?_) (fun rest8 => ?_))
        ·obtain ⟨v8, l701012⟩ := s
         have h : VCc43_k8 sumv m X2 ret46v v8 l701012 := h
         unfold VCc43_k8 at h
         refine inlR_n (ob := True) (.v (.c (.pI v8))) (by kernel_rfl) trivial rfl ?_
         refine qL ⟨63, [e7_8, e7_16 b, sI 2 signs, sI 3 i, sI 10 m, sI 11 ret46v.1, sI 49 sumv, sI 56 v8, e7_14], [e7_0 c0 c1 c2 c3 c4, e7_4 l701012]⟩ (qT 1 ⟨63, [e7_8, e7_16 b, sI 2 signs, sI 3 i, sI 10 m, sI 49 sumv, sI 56 v8, sI 57 ret46v.1, e7_14], [e7_0 c0 c1 c2 c3 c4, e7_4 l701012]⟩ (qK 58 [.d tI, .d tI] (fun ret58v => ⟨63, [e7_8, e7_16 b, sI 2 signs, sI 3 i, sI 10 m, sI 49 sumv, sI 58 ret58v, e7_14], [e7_0 c0 c1 c2 c3 c4, e7_4 l701012]⟩) Try.call65 (link65 v8 ret46v.1 _ h) fun ret58v h => ?_))
         exact qA 2 0 1 ⟨63, [e7_8, e7_16 b, sI 2 signs, sI 3 i, sI 9 (sumv + ret58v), sI 10 m, e7_14], [e7_0 c0 c1 c2 c3 c4, e7_4 l701012]⟩ h fun h => awl_nil (rest7 ((sumv + ret58v), l701012) h)
        ·refine qS 1 ⟨93, [e7_8, e7_1 b, sI 2 signs, sI 3 m, e7_15, e7_13 b, sI 95 signs, sI 96 i, sI 103 m, e7_10 ret46v, sI 142 sumv, e7_7], [e7_0 c0 c1 c2 c3 c4, e7_5 ret46v]⟩ (aw_seq (qS 7 ⟨93, [e7_8, e7_1 b, sI 2 signs, sI 3 m, sB 19 (decide ((bhx0 b) < c0)), e7_15, e7_13 b, sI 95 signs, sI 96 i, sI 103 m, e7_10 ret46v, sI 142 sumv, e7_7], [e7_0 c0 c1 c2 c3 c4, e7_5 ret46v]⟩ (qI h (fun h => ?_) fun h => ?_)))
         ·refine aw_seq (sr ?_)
          obtain ⟨o1, o2, h⟩ := h
          refine qR 15 ⟨93, [sB 34 ((decide (m = (signs + (1 : Int)))) && (decide ((c4.getD (signs).toNat (0 : Int)) = (bhx0 b)))), e7_15, e7_13 b, sI 95 signs, sI 96 i, sI 103 m, e7_10 ret46v, sI 142 sumv, e7_7], [e7_0 c0 c1 c2 c3 c4, e7_5 ret46v]⟩ (ob := Ts 2 (InR (signs + (1 : Int)) ∧ Ts 2 (Ti 5 ((decide (m = (signs + (1 : Int)))) = true → True) (((decide (m = (signs + (1 : Int)))) = true → inIdx signs c4.length) ∧ Ti 3 ((decide (m = (signs + (1 : Int)))) = true → True) (Ts 1 True))))) (tsI 2 (⟨o1, tsI 2 (tiI 5 (fun _ => trivial) ⟨o2, tiI 3 (fun _ => trivial) (tsI 1 trivial)⟩)⟩)) ?_
          refine nn (qI h (fun h => ?_) fun h => ?_)
          ·exact qS 1 ⟨93, [sI 8 (1 : Int), e7_15, e7_13 b, sI 95 signs, sI 96 i, sI 103 m, e7_10 ret46v, sI 142 sumv, e7_7], [e7_0 c0 c1 c2 c3 c4, e7_5 ret46v]⟩ (aw_ret (thenQ_r (thenQ_r (rest8 ((1 : Int), ret46v.2) h))))
          ·exact aw_skip (thenQ_n (qS 1 ⟨93, [e7_20, e7_15, e7_13 b, sI 95 signs, sI 96 i, sI 103 m, e7_10 ret46v, sI 142 sumv, e7_7], [e7_0 c0 c1 c2 c3 c4, e7_5 ret46v]⟩ (aw_ret (thenQ_r (rest8 ((0 : Int), ret46v.2) h)))))
         ·refine aw_skip (thenQ_n (aw_seq (qS 3 ⟨93, [e7_8, e7_1 b, sI 2 signs, sI 3 m, sB 37 (decide (signs = m)), e7_15, e7_13 b, sI 95 signs, sI 96 i, sI 103 m, e7_10 ret46v, sI 142 sumv, e7_7], [e7_0 c0 c1 c2 c3 c4, e7_5 ret46v]⟩ (qI h (fun h => ?_) fun h => ?_))))
          ·exact qS 1 ⟨93, [e7_20, e7_15, e7_13 b, sI 95 signs, sI 96 i, sI 103 m, e7_10 ret46v, sI 142 sumv, e7_7], [e7_0 c0 c1 c2 c3 c4, e7_5 ret46v]⟩ (aw_ret (thenQ_r (rest8 ((0 : Int), ret46v.2) h)))
          ·refine aw_skip (thenQ_n (qS 14 ⟨93, [e7_8, e7_1 b, sI 2 signs, sI 3 m, e7_17 ret46v b signs m, sB 10 ((mget ret46v.2 [(bhx0 b), signs, m]).isSome), e7_15, e7_13 b, sI 95 signs, sI 96 i, sI 103 m, e7_10 ret46v, sI 142 sumv, e7_7], [e7_0 c0 c1 c2 c3 c4, e7_5 ret46v]⟩ (aw_seq (qS 1 ⟨93, [e7_8, e7_1 b, sI 2 signs, sI 3 m, e7_17 ret46v b signs m, sB 50 ((mget ret46v.2 [(bhx0 b), signs, m]).isSome), e7_15, e7_13 b, sI 95 signs, sI 96 i, sI 103 m, e7_10 ret46v, sI 142 sumv, e7_7], [e7_0 c0 c1 c2 c3 c4, e7_5 ret46v]⟩ (qI h (fun h => ?_) fun h => ?_)))))
           ·exact qS 2 ⟨93, [sI 8 ((mget ret46v.2 [(bhx0 b), signs, m]).getD (0 : Int)), e7_15, e7_13 b, sI 95 signs, sI 96 i, sI 103 m, e7_10 ret46v, sI 142 sumv, e7_7], [e7_0 c0 c1 c2 c3 c4, e7_5 ret46v]⟩ (aw_ret (thenQ_r (rest8 (((mget ret46v.2 [(bhx0 b), signs, m]).getD (0 : Int)), ret46v.2) h)))
           ·refine aw_skip (thenQ_n (aw_seq (qS 7 ⟨93, [e7_8, e7_1 b, sI 2 signs, sI 3 m, e7_17 ret46v b signs m, e7_3 c3, e7_9 c3, sI 58 (0 : Int), e7_15, e7_13 b, sI 95 signs, sI 96 i, sI 103 m, e7_10 ret46v, sI 142 sumv, e7_7], [e7_0 c0 c1 c2 c3 c4, e7_5 ret46v]⟩ (withJoin (σ := Int × Lqd) (fun s => ⟨93, [e7_8, e7_1 b, sI 2 signs, sI 3 m, sI 9 s.1, e7_15, e7_13 b, sI 95 signs, sI 96 i, sI 103 m, e7_10 ret46v, sI 142 sumv, e7_7], [e7_0 c0 c1 c2 c3 c4, (70101, [], .dict (.ar 2 tI) tI s.2)]⟩) (fun s => VCc43_k9 b signs sumv m X2 ret46v s.1 s.2) (fun s h => ?_) (fun rest10 => ?_)))))
            ·obtain ⟨n, l701012⟩ := s
             have h : VCc43_k9 b signs sumv m X2 ret46v n l701012 := h
             unfold VCc43_k9 at h
             refine thenQ_n (aw_seq (qS 2 ⟨93, [e7_8, e7_1 b, sI 2 signs, sI 3 m, sI 9 n, sB 82 (decide ((1099511627776 : Int) < n)), e7_15, e7_13 b, sI 95 signs, sI 96 i, sI 103 m, e7_10 ret46v, sI 142 sumv, e7_7], [e7_0 c0 c1 c2 c3 c4, e7_4 l701012]⟩ (withJoin (σ := Int) (fun s => ⟨93, [e7_8, e7_1 b, sI 2 signs, sI 3 m, sI 9 s, e7_15, e7_13 b, sI 95 signs, sI 96 i, sI 103 m, e7_10 ret46v, sI 142 sumv, e7_7], [e7_0 c0 c1 c2 c3 c4, e7_4 l701012]⟩) (fun s => VCc43_k10 b signs sumv m X2 ret46v l701012 s) (fun n2 h => ?_) (fun rest9 => ?_))))
             ·have h : VCc43_k10 b signs sumv m X2 ret46v l701012 n2 := h
              unfold VCc43_k10 at h
              exact thenQ_n (sr (qT 10 ⟨93, [sI 9 n2, e7_15, e7_13 b, sI 95 signs, sI 96 i, sI 103 m, e7_10 ret46v, sI 142 sumv, e7_7], [e7_0 c0 c1 c2 c3 c4, (70101, [], .dict (.ar 2 tI) tI (mset l701012 [(bhx0 b), signs, m] n2))]⟩ (nsr (qT 2 ⟨93, [sI 8 n2, e7_15, e7_13 b, sI 95 signs, sI 96 i, sI 103 m, e7_10 ret46v, sI 142 sumv, e7_7], [e7_0 c0 c1 c2 c3 c4, (70101, [], .dict (.ar 2 tI) tI (mset l701012 [(bhx0 b), signs, m] n2))]⟩ (nn (aw_ret (rest8 (n2, (mset l701012 [(bhx0 b), signs, m] n2)) h)))))))
             ·refine qI h (fun h => ?_) fun h => ?_
              ·exact aw_region (qT 1 ⟨93, [e7_8, e7_1 b, sI 2 signs, sI 3 m, e7_21, e7_15, e7_13 b, sI 95 signs, sI 96 i, sI 103 m, e7_10 ret46v, sI 142 sumv, e7_7], [e7_0 c0 c1 c2 c3 c4, e7_4 l701012]⟩ (awl_nil (rest9 (1099511627777 : Int) h)))
              ·exact qC ⟨93, [e7_8, e7_1 b, sI 2 signs, sI 3 m, sI 9 n, e7_15, e7_13 b, sI 95 signs, sI 96 i, sI 103 m, e7_10 ret46v, sI 142 sumv, e7_7], [e7_0 c0 c1 c2 c3 c4, e7_4 l701012]⟩ (aw_skip (rest9 n h))
            ·refine aw_block (aw_loop (σ := Int × Int × Lqd) (fun s => ⟨93, [e7_8, e7_1 b, sI 2 signs, sI 3 m, sI 9 s.1, e7_3 c3, e7_9 c3, sI 58 s.2.1, e7_15, e7_13 b, sI 95 signs, sI 96 i, sI 103 m, e7_10 ret46v, sI 142 sumv, e7_7], [e7_0 c0 c1 c2 c3 c4, (70101, [], .dict (.ar 2 tI) tI s.2.2)]⟩) (fun s X => VCc43_l3 c0 c3 R b signs sumv m X2 ret46v s.1 s.2.1 s.2.2 X) (s0 := (((mget ret46v.2 [(bhx0 b), signs, m]).getD (0 : Int)), (0 : Int), ret46v.2)) (fun s X3 h => ?_) h)
             obtain ⟨n, v58, l701012⟩ := s
             have h : VCc43_l3 c0 c3 R b signs sumv m X2 ret46v n v58 l701012 X3 := h
             unfold VCc43_l3 at h
             refine qS 1 ⟨93, [e7_8, e7_1 b, sI 2 signs, sI 3 m, sI 9 n, e7_3 c3, e7_9 c3, sI 58 v58, sB 59 (decide (v58 < (c3.length : Int))), e7_15, e7_13 b, sI 95 signs, sI 96 i, sI 103 m, e7_10 ret46v, sI 142 sumv, e7_7], [e7_0 c0 c1 c2 c3 c4, e7_4 l701012]⟩ (aw_seq (qI h (fun h => ?_) fun h => ?_))
             ·refine aw_skip (thenQ_n (aw_seq (aw_block (sr (qA 4 0 3 ⟨93, [e7_8, e7_1 b, sI 2 signs, sI 3 m, sI 9 n, sp 12 12, e7_3 c3, e7_9 c3, sI 58 v58, e7_15, e7_13 b, sI 95 signs, sI 96 i, sI 103 m, e7_10 ret46v, sI 142 sumv, e7_7], [e7_12 c3 v58, e7_0 c0 c1 c2 c3 c4, e7_4 l701012]⟩ h fun h => nn (aw_seq (awd_begin [] (by kernel_rfl) ?_)))))))
              obtain ⟨o1, h⟩ := h
              refine qDO 8 1 [0, 1, 2, 3, 4, 5, 6, 7, 8, 9] [9, 8, 7, 6, 5, 4, 3, 2, 1, 0] ⟨93, [e7_8, e7_1 b, sI 2 signs, sI 3 m, sI 9 n, sp 12 12, e7_3 c3, e7_9 c3, sI 58 v58, sB 71 (decide ((bhx1 c3 v58).1 = ((bhx0 b) - c0))), e7_15, e7_13 b, sI 95 signs, sI 96 i, sI 103 m, e7_10 ret46v, sI 142 sumv, e7_7], [e7_12 c3 v58, e7_0 c0 c1 c2 c3 c4, e7_4 l701012]⟩ o1 (awd_done (by kernel_rfl) ?_)
              refine thenQ_n (withJoin (σ := Int × Lqd) (fun s => ⟨93, [e7_8, e7_1 b, sI 2 signs, sI 3 m, sI 9 s.1, e7_3 c3, e7_9 c3, sI 58 v58, e7_15, e7_13 b, sI 95 signs, sI 96 i, sI 103 m, e7_10 ret46v, sI 142 sumv, e7_7], [e7_0 c0 c1 c2 c3 c4, (70101, [], .dict (.ar 2 tI) tI s.2)]⟩) (fun s => VCc43_k11 v58 X3 s.1 s.2) (fun s h => ?_) (fun rest11 => ?_))
              ·obtain ⟨n2, l701013⟩ := s
               have h : VCc43_k11 v58 X3 n2 l701013 := h
               unfold VCc43_k11 at h
               exact blockQ_n (thenQ_n (aw_region (qA 2 0 1 ⟨93, [e7_8, e7_1 b, sI 2 signs, sI 3 m, sI 9 n2, e7_3 c3, e7_9 c3, sI 58 (v58 + (1 : Int)), e7_15, e7_13 b, sI 95 signs, sI 96 i, sI 103 m, e7_10 ret46v, sI 142 sumv, e7_7], [e7_0 c0 c1 c2 c3 c4, (70101, [], .dict (.ar 2 tI) tI l701013)]⟩ h fun h => awl_nil (thenQ_n ⟨(n2, (v58 + (1 : Int)), l701013), rfl, h⟩))))
              ·refine qI h (fun h => ?_) fun h => ?_
               ·refine aw_region (qT 6 ⟨93, [e7_8, e7_1 b, sI 2 signs, sI 3 m, e7_3 c3, e7_9 c3, sI 58 v58, sI 72 n, sp 73 70100, e7_19 c3 v58, sI 76 signs, sI 77 m, e7_15, e7_13 b, sI 95 signs, sI 96 i, sI 103 m, e7_10 ret46v, sI 142 sumv, e7_7], [e7_0 c0 c1 c2 c3 c4, e7_4 l701012]⟩ (awl_lcall (σ := Int × Lqd) [70100, 70101] [70100] [.c (.ptr 70100 0), .c (.pS ((bhx1 c3 v58).2)), .c (.pI signs), .c (.pI m)] [] (fun ret78v => .v (.c (.pI ret78v.1))) (fun ret78v => [e7_0 c0 c1 c2 c3 c4, e7_11 ret78v]) (_) [e7_0 c0 c1 c2 c3 c4, e7_4 l701012] (fun ret78v => ⟨93, [sI 78 ret78v.1, e7_8, e7_1 b, sI 2 signs, sI 3 m, e7_3 c3, e7_9 c3, sI 58 v58, sI 72 n, sp 73 70100, e7_19 c3 v58, sI 76 signs, sI 77 m, e7_15, e7_13 b, sI 95 signs, sI 96 i, sI 103 m, e7_10 ret46v, sI 142 sumv, e7_7], [e7_0 c0 c1 c2 c3 c4, e7_11 ret78v]⟩) rfl rfl (by kernel_rfl) rfl (by kernel_rfl) Try.call43 (by kernel_rfl) (by kernel_rfl) (by kernel_rfl) (fun _ _ => rfl) (fun _ => by kernel_rfl) (hR ((bhx1 c3 v58).2) signs m l701012 _ h) (fun ret78v h => ?_)))
                exact qL ⟨93, [e7_8, e7_1 b, sI 2 signs, sI 3 m, e7_3 c3, e7_9 c3, sI 58 v58, sI 72 n, sI 78 ret78v.1, e7_15, e7_13 b, sI 95 signs, sI 96 i, sI 103 m, e7_10 ret46v, sI 142 sumv, e7_7], [e7_0 c0 c1 c2 c3 c4, e7_11 ret78v]⟩ (qA 2 0 1 ⟨93, [e7_8, e7_1 b, sI 2 signs, sI 3 m, sI 9 (n + ret78v.1), e7_3 c3, e7_9 c3, sI 58 v58, e7_15, e7_13 b, sI 95 signs, sI 96 i, sI 103 m, e7_10 ret46v, sI 142 sumv, e7_7], [e7_0 c0 c1 c2 c3 c4, e7_11 ret78v]⟩ h fun h => awl_nil (rest11 ((n + ret78v.1), ret78v.2) h))
               ·exact qC ⟨93, [e7_8, e7_1 b, sI 2 signs, sI 3 m, sI 9 n, e7_3 c3, e7_9 c3, sI 58 v58, e7_15, e7_13 b, sI 95 signs, sI 96 i, sI 103 m, e7_10 ret46v, sI 142 sumv, e7_7], [e7_0 c0 c1 c2 c3 c4, e7_4 l701012]⟩ (aw_skip (rest11 (n, l701012) h))
             ·exact qC ⟨93, [e7_8, e7_1 b, sI 2 signs, sI 3 m, sI 9 n, e7_15, e7_13 b, sI 95 signs, sI 96 i, sI 103 m, e7_10 ret46v, sI 142 sumv, e7_7], [e7_0 c0 c1 c2 c3 c4, e7_4 l701012]⟩ (aw_exit (thenQ_x (thenQ_x (blockQ_hit (rest10 (n, l701012) h)))))
       ·exact qC ⟨63, [e7_8, e7_16 b, sI 2 signs, sI 3 i, sI 9 sumv, sI 10 m, e7_14], [e7_0 c0 c1 c2 c3 c4, e7_5 ret46v]⟩ (aw_skip (rest7 (sumv, ret46v.2) h))
     ·exact qC ⟨63, [sI 9 sumv, e7_14], [e7_0 c0 c1 c2 c3 c4, e7_6 l70101]⟩ (aw_exit (thenQ_x (thenQ_x (blockQ_hit (rest5 (sumv, l70101) h)))))
def VCc43_it (c0 c1 c2 : Int) (c3 : LR) (c4 : LI) : Nat → LI → Int → Int → Lqd → (Int × Lqd → Prop) → Prop
  | 0 => fun _ _ _ _ _ => False
  | n + 1 => fun b signs i c5 K => VCc43 c0 c1 c2 c3 c4 (VCc43_it c0 c1 c2 c3 c4 n) b signs i c5 K
def VCcr43 (c0 c1 c2 : Int) (c3 : LR) (c4 b : LI) (signs i : Int) (c5 : Lqd) (K : Int × Lqd → Prop) : Prop := ∃ n, VCc43_it c0 c1 c2 c3 c4 n b signs i c5 K
theorem linkci43 (c0 c1 c2 : Int) (c3 : LR) (c4 : LI) : ∀ (n : Nat) (b : LI) (signs i : Int) (c5 : Lqd) (K : Int × Lqd → Prop), VCc43_it c0 c1 c2 c3 c4 n b signs i c5 K → LCalls Try.prog 43 [70100, 70101] [70100] [e7_0 c0 c1 c2 c3 c4, e7_2 c5] [.c (.ptr 70100 0), .c (.pS b), .c (.pI signs), .c (.pI i)] (fun av hp' => ∃ y : Int × Lqd, av = .v (.c (.pI y.1)) ∧ hp' = [e7_0 c0 c1 c2 c3 c4, (70101, [], .dict (.ar 2 tI) tI y.2)] ∧ K y)
  | 0, _, _, _, _, _, h => False.elim h
  | n + 1, b, signs, i, c5, K, h => linkc43 c0 c1 c2 c3 c4 (VCc43_it c0 c1 c2 c3 c4 n) (linkci43 c0 c1 c2 c3 c4 n) b signs i c5 K h
theorem linkcr43 (c0 c1 c2 : Int) (c3 : LR) (c4 b : LI) (signs i : Int) (c5 : Lqd) (K : Int × Lqd → Prop) (h : VCcr43 c0 c1 c2 c3 c4 b signs i c5 K) : LCalls Try.prog 43 [70100, 70101] [70100] [e7_0 c0 c1 c2 c3 c4, e7_2 c5] [.c (.ptr 70100 0), .c (.pS b), .c (.pI signs), .c (.pI i)] (fun av hp' => ∃ y : Int × Lqd, av = .v (.c (.pI y.1)) ∧ hp' = [e7_0 c0 c1 c2 c3 c4, (70101, [], .dict (.ar 2 tI) tI y.2)] ∧ K y) := by
  obtain ⟨n, h⟩ := h
  exact linkci43 c0 c1 c2 c3 c4 n b signs i c5 K h
abbrev e7a0 (g : TG) (w : LI) := hB 9 [.pI g.1, .pI g.2.1, .pI g.2.2.1, .p (.sl tR) g.2.2.2, .pS w, .own 7]
abbrev e7a1 (g : TG) (w : LI) := hB 70100 [.pI g.1, .pI g.2.1, .pI g.2.2.1, .p (.sl tR) g.2.2.2, .pS w, .own 70101]
abbrev e7a2 (g : TG) := s1 56 (.p (.sl tR) g.2.2.2)
abbrev e7a3 (g : TG) := hB 2 [.pI g.1, .pI g.2.1, .pI g.2.2.1, .p (.sl tR) g.2.2.2]
abbrev e7a4 : Nat × Path × Con := (7, [], .dict (.ar 2 tI) tI ([] : List (LI × Int)))
abbrev e7a5 (w : LI) := sI 3 (w.length : Int)
abbrev e7a6 (g : TG) := sI 1 (g.1 + g.2.2.1)
abbrev e7a7 (l7 : Lqd) : Nat × Path × Con := (7, [], .dict (.ar 2 tI) tI l7)
abbrev e7a8 (g : TG) := sI 57 (g.2.2.2.length : Int)
abbrev e7a9 := sI 2 (0 : Int)
abbrev e7a10 (g : TG) (w : LI) := sI 9 ((mget ([] : List (LI × Int)) [(g.1 + g.2.2.1), (0 : Int), (w.length : Int)]).getD (0 : Int))
abbrev e7a11 (g : TG) (v58 : Int) := hB 12 [.pI ((g.2.2.2.getD (v58).toNat zqb).1), .pS ((g.2.2.2.getD (v58).toNat zqb).2)]
abbrev e7a12 (ret78v : Int × Lqd) : Nat × Path × Con := (70101, [], .dict (.ar 2 tI) tI ret78v.2)
abbrev e7a13 (g : TG) (v58 : Int) := s1 75 (.pS ((g.2.2.2.getD (v58).toNat zqb).2))
abbrev e7a14 (l7 : Lqd) : Nat × Path × Con := (70101, [], .dict (.ar 2 tI) tI l7)
abbrev e7an0 : List Nat := [0, 1, 2, 3, 9, 56, 57, 58]
-- coppicer/coppicerkeep.trees
def VC7_k1 (K : Int × Bool → Prop) (v8 : Int) : Prop :=
  K (v8, true)
def VC7_k3 (K : Int × Bool → Prop) (n2 : Int) : Prop :=
  VC7_k1 K n2
def VC7_k2 (K : Int × Bool → Prop) (n : Int) (l7 : Lqd) : Prop :=
  (((decide ((1099511627776 : Int) < n)) = true → VC7_k3 K (1099511627777 : Int)) ∧ ((decide ((1099511627776 : Int) < n)) = false → VC7_k3 K n))
def VC7_k4 (v58 : Int) (X1 : Int × Int × Lqd → Prop) (n2 : Int) (l70101 : Lqd) : Prop :=
  (InR (v58 + (1 : Int)) ∧ X1 (n2, (v58 + (1 : Int)), l70101))
def VC7_l1 (g : TG) (w : LI) (K : Int × Bool → Prop) (n v58 : Int) (l7 : Lqd) (X1 : Int × Int × Lqd → Prop) : Prop :=
  (((decide (v58 < (g.2.2.2.length : Int))) = true → (inIdx v58 g.2.2.2.length ∧ (InR ((g.1 + g.2.2.1) - g.1) ∧ (((decide ((g.2.2.2.getD (v58).toNat ((0 : Int), ([] : LI))).1 = ((g.1 + g.2.2.1) - g.1))) = true → VCcr43 g.1 g.2.1 g.2.2.1 g.2.2.2 w ((g.2.2.2.getD (v58).toNat ((0 : Int), ([] : LI))).2) (0 : Int) (w.length : Int) l7 (fun (ret78v : Int × Lqd) => (InR (n + ret78v.1) ∧ VC7_k4 v58 X1 (n + ret78v.1) ret78v.2))) ∧ ((decide ((g.2.2.2.getD (v58).toNat ((0 : Int), ([] : LI))).1 = ((g.1 + g.2.2.1) - g.1))) = false → VC7_k4 v58 X1 n l7))))) ∧ ((decide (v58 < (g.2.2.2.length : Int))) = false → VC7_k2 K n l7))
def VC7 (g : TG) (w : LI) (K : Int × Bool → Prop) : Prop :=
  VC18 g w (fun (ret8v : Bool) => gcall (α := Bool) (!(!ret8v)) (VC19 g) false (fun (ret12v : Bool) => ((((!ret8v) || (!ret12v)) = true → K ((0 : Int), false)) ∧ (((!ret8v) || (!ret12v)) = false → (InR (g.1 + g.2.2.1) ∧ (((decide ((g.1 + g.2.2.1) < g.1)) = true → (InR ((0 : Int) + (1 : Int)) ∧ ((decide ((w.length : Int) = ((0 : Int) + (1 : Int)))) = true → inIdx (0 : Int) w.length) ∧ ((((decide ((w.length : Int) = ((0 : Int) + (1 : Int)))) && (decide ((w.getD ((0 : Int)).toNat (0 : Int)) = (g.1 + g.2.2.1)))) = true → VC7_k1 K (1 : Int)) ∧ (((decide ((w.length : Int) = ((0 : Int) + (1 : Int)))) && (decide ((w.getD ((0 : Int)).toNat (0 : Int)) = (g.1 + g.2.2.1)))) = false → VC7_k1 K (0 : Int))))) ∧ ((decide ((g.1 + g.2.2.1) < g.1)) = false → (((decide ((0 : Int) = (w.length : Int))) = true → VC7_k1 K (0 : Int)) ∧ ((decide ((0 : Int) = (w.length : Int))) = false → (((mget ([] : List (LI × Int)) [(g.1 + g.2.2.1), (0 : Int), (w.length : Int)]).isSome = true → VC7_k1 K ((mget ([] : List (LI × Int)) [(g.1 + g.2.2.1), (0 : Int), (w.length : Int)]).getD (0 : Int))) ∧ ((mget ([] : List (LI × Int)) [(g.1 + g.2.2.1), (0 : Int), (w.length : Int)]).isSome = false → Loop (σ := Int × Int × Lqd) (fun s X => VC7_l1 g w K s.1 s.2.1 s.2.2 X) (((mget ([] : List (LI × Int)) [(g.1 + g.2.2.1), (0 : Int), (w.length : Int)]).getD (0 : Int)), (0 : Int), ([] : List (LI × Int))))))))))))))
abbrev bkx0 (g : TG) (w : LI) := (mget ([] : List (LI × Int)) [(g.1 + g.2.2.1), (0 : Int), (w.length : Int)])
abbrev bkx1 (w : LI) := decide ((w.length : Int) = ((0 : Int) + (1 : Int)))
abbrev bkx2 (w : LI) (g : TG) := (bkx1 w) && (decide ((w.getD ((0 : Int)).toNat (0 : Int)) = (g.1 + g.2.2.1)))
theorem link7 (g : TG) (w : LI) (K : Int × Bool → Prop) (h : VC7 g w K) : ACalls Try.prog 7 [toV1 tG g, toV1 (.sl tI) w] (fun res => ∃ y, res = (fun y => [toV1 tI y.1, toV1 .bool y.2]) y ∧ K y) := by
 refine acalls_of_aw [tI, .bool] [.t 4, .t 5] Try.func7 rfl rfl rfl ?_
 unfold VC7 at h
 refine qS 3 ⟨26, [s1 1 (.pS w), sp 2 2], [e7a3 g]⟩ (aw_seq (sr (qT 2 ⟨26, [s1 1 (.pS w), sp 2 2, sA 6 [.pI g.1, .pI g.2.1, .pI g.2.2.1, .p (.sl tR) g.2.2.2], s1 7 (.pS w)], [e7a3 g]⟩ (qK 8 [.d tG, .d (.sl tI)] (fun ret8v => ⟨26, [s1 1 (.pS w), sp 2 2, sB 8 ret8v], [e7a3 g]⟩) Try.call18 (link18 g w _ h) fun ret8v h => ?_))))
 refine qR 3 ⟨26, [s1 1 (.pS w), sp 2 2, sB 10 (!ret8v), (11, [(10, false)], .v (.agg [.pI g.1, .pI g.2.1, .pI g.2.2.1, .p (.sl tR) g.2.2.2]))], [e7a3 g]⟩ (ob := Ts 2 (((!ret8v) = false → True) ∧ True)) (tsI 2 ⟨(fun _ => trivial), trivial⟩) ?_
 refine awl_callk (p := [(10, false)]) (l := [toV1 tG g]) (cl := []) false [.d tG] [1, 2, 10, 12] [2] (fun (ret12v : Bool) => ((((!ret8v) || (!ret12v)) = true → K ((0 : Int), false)) ∧ (((!ret8v) || (!ret12v)) = false → (InR (g.1 + g.2.2.1) ∧ (((decide ((g.1 + g.2.2.1) < g.1)) = true → (InR ((0 : Int) + (1 : Int)) ∧ ((bkx1 w) = true → inIdx (0 : Int) w.length) ∧ (((bkx2 w g) = true → VC7_k1 K (1 : Int)) ∧ ((bkx2 w g) = false → VC7_k1 K (0 : Int))))) ∧ ((decide ((g.1 + g.2.2.1) < g.1)) = false → (((decide ((0 : Int) = (w.length : Int))) = true → VC7_k1 K (0 : Int)) ∧ ((decide ((0 : Int) = (w.length : Int))) = false → (((bkx0 g w).isSome = true → VC7_k1 K ((bkx0 g w).getD (0 : Int))) ∧ ((bkx0 g w).isSome = false → Loop (σ := Int × Int × Lqd) (fun s X => VC7_l1 g w K s.1 s.2.1 s.2.2 X) (((bkx0 g w).getD (0 : Int)), (0 : Int), ([] : List (LI × Int))))))))))))) (fun ret12v => [toV1 .bool ret12v]) (fun ret12v => ⟨26, [s1 1 (.pS w), sp 2 2, sB 10 (!ret8v), (12, [(10, false)], .v (.c (.pB ret12v)))], [e7a3 g]⟩) (by kernel_rfl) rfl (by kernel_rfl) rfl (by kernel_rfl) Try.call19 (by kernel_rfl) (fun ret12v => by kernel_rfl) (fun e => by cases e) (fun hg => link19 g _ (by have := gcall_T h (show (!(!ret8v)) = true from hg); exact this)) (fun hg => ⟨false, by have := gcall_F h (show (!(!ret8v)) = false from hg); exact this⟩) (fun ret12v h => ?_)
 refine qR 2 ⟨26, [s1 1 (.pS w), sp 2 2, sB 14 ((!ret8v) || (!ret12v))], [e7a3 g]⟩ (ob := ((!ret8v) = false → True) ∧ Ts 1 True) (⟨(fun _ => trivial), tsI 1 trivial⟩) ?_
 refine nn (qI h (fun h => ?_) fun h => ?_)
 ·exact qS 2 ⟨26, [sI 4 (0 : Int), sB 5 false], []⟩ (aw_ret (thenQ_r (qE 2 h)))
 ·refine aw_skip (thenQ_n (aw_seq (qV [.ren 2 30000] ⟨26, [s1 1 (.pS w), sp 2 30000, sB 14 ((!ret8v) || (!ret12v))], [hB 30000 [.pI g.1, .pI g.2.1, .pI g.2.2.1, .p (.sl tR) g.2.2.2]]⟩ (awd_begin [7, 9] (by kernel_rfl) ?_))))
  obtain ⟨o1, h⟩ := h
  refine qDO 6 2 [0, 1, 3, 4, 5, 6, 7, 8, 9] [9, 8, 7, 6, 5, 4, 3, 1, 0] ⟨26, [sA 15 [.pI g.1, .pI g.2.1, .pI g.2.2.1, .p (.sl tR) g.2.2.2], s1 16 (.pS w), sI 22 (g.1 + g.2.2.1), sI 24 (w.length : Int)], []⟩ o1 (awd_one (i := 2) (by kernel_rfl) ?_)
  refine adop_inlr [.t 4] [.agg [.pI g.1, .pI g.2.1, .pI g.2.2.1, .p (.sl tR) g.2.2.2], .c (.pS w)] [] rfl rfl rfl (by kernel_rfl) rfl (by kernel_rfl) Try.call20 (by kernel_rfl) (by kernel_rfl) Try.func20 rfl rfl (by kernel_rfl) (qV [] ⟨10, [sA 0 [.pI g.1, .pI g.2.1, .pI g.2.2.1, .p (.sl tR) g.2.2.2], s1 1 (.pS w), sA 25 [.pI g.1, .pI g.2.1, .pI g.2.2.1, .p (.sl tR) g.2.2.2], s1 26 (.pS w), sI 32 (g.1 + g.2.2.1), sI 34 (w.length : Int)], []⟩ (sr (qT 2 ⟨10, [s1 1 (.pS w), sp 2 2, sI 32 (g.1 + g.2.2.1), sI 34 (w.length : Int)], [e7a3 g]⟩ (nsr (qT 6 ⟨10, [sp 4 9, sI 32 (g.1 + g.2.2.1), sI 34 (w.length : Int)], [e7a4, e7a0 g w]⟩ (nn (aw_ret (inlR_r (ob := True) (.v (.c (.ptr 9 0))) (by kernel_rfl) trivial rfl ?_))))))))
  refine dpr (st' := ⟨26, [sp 17 9, sI 22 (g.1 + g.2.2.1), sI 24 (w.length : Int)], [e7a4, e7a0 g w]⟩) (by kernel_rfl) (awd_one (i := 10) (by kernel_rfl) ?_)
  refine adop_inlr [.t 8] [.c (.ptr 9 0), .c (.pI (g.1 + g.2.2.1)), .c (.pI (0 : Int)), .c (.pI (w.length : Int))] [] rfl rfl rfl (by kernel_rfl) rfl (by kernel_rfl) Try.call21 (by kernel_rfl) (by kernel_rfl) Try.func21 rfl rfl (by kernel_rfl) (qV [] ⟨93, [sp 0 9, e7a6 g, e7a9, e7a5 w, sp 110 9, sI 115 (g.1 + g.2.2.1), sI 117 (w.length : Int)], [e7a4, e7a0 g w]⟩ (withJoinR (σ := Int) (fun s => ⟨93, [sI 8 s], []⟩) (fun s => VC7_k1 K s) (fun v8 h => ?_) (fun rest1 => ?_)))
  ·have h : VC7_k1 K v8 := h
   unfold VC7_k1 at h
   refine inlR_n (ob := True) (.v (.c (.pI v8))) (by kernel_rfl) trivial rfl ?_
   refine dpr (st' := ⟨26, [sI 25 v8], []⟩) (by kernel_rfl) (qDT 2 [11, 12] [12, 11, 10, 2, 9, 8, 7, 6, 5, 4, 3, 1, 0] ⟨26, [sI 4 v8, sB 5 true], []⟩ (awd_done (by kernel_rfl) ?_))
   exact thenQ_n (aw_ret (qE 2 h))
  ·refine qS 1 ⟨93, [sp 0 9, e7a6 g, e7a9, e7a5 w], [e7a4, e7a0 g w]⟩ (aw_seq (qS 7 ⟨93, [sp 0 9, e7a6 g, e7a9, e7a5 w, sB 19 (decide ((g.1 + g.2.2.1) < g.1))], [e7a4, e7a0 g w]⟩ (qI h (fun h => ?_) fun h => ?_)))
   ·refine aw_seq (sr ?_)
    obtain ⟨o1, o2, h⟩ := h
    refine qR 15 ⟨93, [sB 34 (bkx2 w g)], []⟩ (ob := Ts 2 (InR ((0 : Int) + (1 : Int)) ∧ Ts 2 (Ti 5 ((bkx1 w) = true → True) (((bkx1 w) = true → inIdx (0 : Int) w.length) ∧ Ti 3 ((bkx1 w) = true → True) (Ts 1 True))))) (tsI 2 (⟨o1, tsI 2 (tiI 5 (fun _ => trivial) ⟨o2, tiI 3 (fun _ => trivial) (tsI 1 trivial)⟩)⟩)) ?_
    refine nn (qI h (fun h => ?_) fun h => ?_)
    ·exact qS 1 ⟨93, [sI 8 (1 : Int)], []⟩ (aw_ret (thenQ_r (thenQ_r (rest1 (1 : Int) h))))
    ·exact aw_skip (thenQ_n (qS 1 ⟨93, [sI 8 (0 : Int)], []⟩ (aw_ret (thenQ_r (rest1 (0 : Int) h)))))
   ·refine aw_skip (thenQ_n (aw_seq (qS 3 ⟨93, [sp 0 9, e7a6 g, e7a9, e7a5 w, sB 37 (decide ((0 : Int) = (w.length : Int)))], [e7a4, e7a0 g w]⟩ (qI h (fun h => ?_) fun h => ?_))))
    ·exact qS 1 ⟨93, [sI 8 (0 : Int)], []⟩ (aw_ret (thenQ_r (rest1 (0 : Int) h)))
    ·refine aw_skip (thenQ_n (qS 14 ⟨93, [sp 0 9, e7a6 g, e7a9, e7a5 w, e7a10 g w, sB 10 ((bkx0 g w).isSome)], [e7a4, e7a0 g w]⟩ (aw_seq (qS 1 ⟨93, [sp 0 9, e7a6 g, e7a9, e7a5 w, e7a10 g w, sB 50 ((bkx0 g w).isSome)], [e7a4, e7a0 g w]⟩ (qI h (fun h => ?_) fun h => ?_)))))
     ·exact qS 2 ⟨93, [sI 8 ((bkx0 g w).getD (0 : Int))], []⟩ (aw_ret (thenQ_r (rest1 ((bkx0 g w).getD (0 : Int)) h)))
     ·refine aw_skip (thenQ_n (aw_seq (qS 7 ⟨93, [sp 0 9, e7a6 g, e7a9, e7a5 w, e7a10 g w, e7a2 g, e7a8 g, sI 58 (0 : Int)], [e7a4, e7a0 g w]⟩ (withJoin (σ := Int × Lqd) (fun s => ⟨93, [sp 0 9, e7a6 g, e7a9, e7a5 w, sI 9 s.1], [(7, [], .dict (.ar 2 tI) tI s.2), e7a0 g w]⟩) (fun s => VC7_k2 K s.1 s.2) (fun s h => ?_) (fun rest3 => ?_)))))
      ·obtain ⟨n, l7⟩ := s
       have h : VC7_k2 K n l7 := h
       unfold VC7_k2 at h
       refine thenQ_n (aw_seq (qS 2 ⟨93, [sp 0 9, e7a6 g, e7a9, e7a5 w, sI 9 n, sB 82 (decide ((1099511627776 : Int) < n))], [e7a7 l7, e7a0 g w]⟩ (withJoin (σ := Int) (fun s => ⟨93, [sp 0 9, e7a6 g, e7a9, e7a5 w, sI 9 s], [e7a7 l7, e7a0 g w]⟩) (fun s => VC7_k3 K s) (fun n2 h => ?_) (fun rest2 => ?_))))
       ·have h : VC7_k3 K n2 := h
        unfold VC7_k3 at h
        exact thenQ_n (sr (qT 10 ⟨93, [sI 9 n2], []⟩ (nsr (qT 2 ⟨93, [sI 8 n2], []⟩ (nn (aw_ret (rest1 n2 h)))))))
       ·refine qI h (fun h => ?_) fun h => ?_
        ·exact aw_region (qT 1 ⟨93, [sp 0 9, e7a6 g, e7a9, e7a5 w, sI 9 (1099511627777 : Int)], [e7a7 l7, e7a0 g w]⟩ (awl_nil (rest2 (1099511627777 : Int) h)))
        ·exact qC ⟨93, [sp 0 9, e7a6 g, e7a9, e7a5 w, sI 9 n], [e7a7 l7, e7a0 g w]⟩ (aw_skip (rest2 n h))
      ·refine aw_block (aw_loop (σ := Int × Int × Lqd) (fun s => ⟨93, [sp 0 9, e7a6 g, e7a9, e7a5 w, sI 9 s.1, e7a2 g, e7a8 g, sI 58 s.2.1], [(7, [], .dict (.ar 2 tI) tI s.2.2), e7a0 g w]⟩) (fun s X => VC7_l1 g w K s.1 s.2.1 s.2.2 X) (s0 := (((bkx0 g w).getD (0 : Int)), (0 : Int), ([] : List (LI × Int)))) (fun s X1 h => ?_) h)
       obtain ⟨n, v58, l7⟩ := s
       have h : VC7_l1 g w K n v58 l7 X1 := h
       unfold VC7_l1 at h
       refine qS 1 ⟨93, [sp 0 9, e7a6 g, e7a9, e7a5 w, sI 9 n, e7a2 g, e7a8 g, sI 58 v58, sB 59 (decide (v58 < (g.2.2.2.length : Int)))], [e7a7 l7, e7a0 g w]⟩ (aw_seq (qI h (fun h => ?_) fun h => ?_))
       ·refine aw_skip (thenQ_n (aw_seq (aw_block (sr (qA 4 0 3 ⟨93, [sp 0 9, e7a6 g, e7a9, e7a5 w, sI 9 n, sp 12 12, e7a2 g, e7a8 g, sI 58 v58], [e7a7 l7, e7a0 g w, e7a11 g v58]⟩ h fun h => nn (aw_seq (awd_begin [] (by kernel_rfl) ?_)))))))
        obtain ⟨o1, h⟩ := h
        refine qDO 8 1 [0, 1, 2, 3, 4, 5, 6, 7, 8, 9] [9, 8, 7, 6, 5, 4, 3, 2, 1, 0] ⟨93, [sp 0 9, e7a6 g, e7a9, e7a5 w, sI 9 n, sp 12 12, e7a2 g, e7a8 g, sI 58 v58, sB 71 (decide ((g.2.2.2.getD (v58).toNat zqb).1 = ((g.1 + g.2.2.1) - g.1)))], [e7a7 l7, e7a0 g w, e7a11 g v58]⟩ o1 (awd_done (by kernel_rfl) ?_)
        refine thenQ_n (withJoin (σ := Int × Lqd) (fun s => ⟨93, [sp 0 70100, e7a6 g, e7a9, e7a5 w, sI 9 s.1, e7a2 g, e7a8 g, sI 58 v58], [e7a1 g w, (70101, [], .dict (.ar 2 tI) tI s.2)]⟩) (fun s => VC7_k4 v58 X1 s.1 s.2) (fun s h => ?_) (fun rest4 => ?_))
        ·obtain ⟨n2, l70101⟩ := s
         have h : VC7_k4 v58 X1 n2 l70101 := h
         unfold VC7_k4 at h
         exact blockQ_n (thenQ_n (aw_region (qA 2 0 1 ⟨93, [sp 0 70100, e7a6 g, e7a9, e7a5 w, sI 9 n2, e7a2 g, e7a8 g, sI 58 (v58 + (1 : Int))], [e7a1 g w, (70101, [], .dict (.ar 2 tI) tI l70101)]⟩ h fun h => qW [.ren 70100 90100, .ren 70101 90101, .ren 90100 9, .ren 90101 7, .prune e7an0 [7, 9]] ⟨93, [sp 0 9, e7a6 g, e7a9, e7a5 w, sI 9 n2, e7a2 g, e7a8 g, sI 58 (v58 + (1 : Int))], [(7, [], .dict (.ar 2 tI) tI l70101), e7a0 g w]⟩ (awl_nil (thenQ_n ⟨(n2, (v58 + (1 : Int)), l70101), rfl, h⟩)))))
        ·refine qI h (fun h => ?_) fun h => ?_
         ·refine aw_region (qT 6 ⟨93, [sp 0 9, e7a6 g, e7a9, e7a5 w, e7a2 g, e7a8 g, sI 58 v58, sI 72 n, sp 73 9, e7a13 g v58, sI 76 (0 : Int), sI 77 (w.length : Int)], [e7a7 l7, e7a0 g w]⟩ (qW [.ren 9 70100, .ren 7 70101] ⟨93, [sp 0 70100, e7a6 g, e7a9, e7a5 w, e7a2 g, e7a8 g, sI 58 v58, sI 72 n, sp 73 70100, e7a13 g v58, sI 76 (0 : Int), sI 77 (w.length : Int)], [e7a14 l7, e7a1 g w]⟩ (awl_lcall (σ := Int × Lqd) [70100, 70101] [70100] [.c (.ptr 70100 0), .c (.pS ((g.2.2.2.getD (v58).toNat zqb).2)), .c (.pI (0 : Int)), .c (.pI (w.length : Int))] [] (fun ret78v => .v (.c (.pI ret78v.1))) (fun ret78v => [e7a1 g w, e7a12 ret78v]) (_) [e7a1 g w, e7a14 l7] (fun ret78v => ⟨93, [sI 78 ret78v.1, sp 0 70100, e7a6 g, e7a9, e7a5 w, e7a2 g, e7a8 g, sI 58 v58, sI 72 n, sp 73 70100, e7a13 g v58, sI 76 (0 : Int), sI 77 (w.length : Int)], [e7a1 g w, e7a12 ret78v]⟩) rfl rfl (by kernel_rfl) rfl (by kernel_rfl) Try.call43 (by kernel_rfl) (by kernel_rfl) (by kernel_rfl) (fun _ _ => rfl) (fun _ => by kernel_rfl) (linkcr43 g.1 g.2.1 g.2.2.1 g.2.2.2 w ((g.2.2.2.getD (v58).toNat zqb).2) (0 : Int) (w.length : Int) l7 _ h) (fun ret78v h => ?_))))
          exact qL ⟨93, [sp 0 70100, e7a6 g, e7a9, e7a5 w, e7a2 g, e7a8 g, sI 58 v58, sI 72 n, sI 78 ret78v.1], [e7a1 g w, e7a12 ret78v]⟩ (qA 2 0 1 ⟨93, [sp 0 70100, e7a6 g, e7a9, e7a5 w, sI 9 (n + ret78v.1), e7a2 g, e7a8 g, sI 58 v58], [e7a1 g w, e7a12 ret78v]⟩ h fun h => awl_nil (rest4 ((n + ret78v.1), ret78v.2) h))
         ·exact qV [.prune e7an0 [7, 9], .ren 9 20009, .ren 7 20007, .ren 20009 70100, .ren 20007 70101, .prune e7an0 [70100, 70101]] ⟨93, [sp 0 70100, e7a6 g, e7a9, e7a5 w, sI 9 n, e7a2 g, e7a8 g, sI 58 v58], [e7a1 g w, e7a14 l7]⟩ (aw_skip (rest4 (n, l7) h))
       ·exact qC ⟨93, [sp 0 9, e7a6 g, e7a9, e7a5 w, sI 9 n], [e7a7 l7, e7a0 g w]⟩ (aw_exit (thenQ_x (thenQ_x (blockQ_hit (rest3 (n, l7) h)))))
-- coppicer/thicket.Sorted$1
def VC46 (k a1 : Int) (K : Bool → Prop) : Prop :=
  K ((decide (k < (0 : Int))) || (decide (a1 ≤ k)))
theorem link46 (k a1 : Int) (K : Bool → Prop) (h : VC46 k a1 K) : ACalls Try.prog 46 [toV1 tI k, .c (.ad tI a1)] (fun res => ∃ y, res = (fun y => [toV1 .bool y]) y ∧ K y) := by
 refine acalls_of_aw [.bool] [.t 3] Try.func46 rfl rfl rfl ?_
 unfold VC46 at h
 refine sr (qT 1 ⟨11, [sI 0 k, s1 1 (.ad tI a1)], []⟩ (nsr (qR 8 ⟨11, [sB 3 ((decide (k < (0 : Int))) || (decide (a1 ≤ k)))], []⟩ (ob := Ts 3 (Ti 3 ((decide (k < (0 : Int))) = false → True) (Ts 2 True))) (tsI 3 (tiI 3 (fun _ => trivial) (tsI 2 trivial))) ?_)))
 exact nn (aw_ret (qE 1 h))
abbrev e23_0 (q0 : Lqa) := hB 70302 [.cl 47 [.pt 70300 0, .ad ⟨tqb, q0⟩, .pt 70302 0, .pt 70303 0]]
abbrev e23_1 (q0 : Lqa) (i v29 : Int) := sB 64 (decide ((0 : Int) < ((((q0.1.getD (i).toNat zqa).2.2.2).getD (v29).toNat ([] : LI)).length : Int)))
abbrev e23_2 (q0 : Lqa) (i : Int) := s1 55 (.p (.sl (.sl tI)) ((q0.1.getD (i).toNat zqa).2.2.2))
abbrev e23_3 (q0 : Lqa) (i v29 : Int) := s1 0 (.pS ((((q0.1.getD (i).toNat zqa).2.2.2).getD (v29).toNat ([] : LI)).drop ((1 : Int)).toNat))
abbrev e23_4 (q0 : Lqa) (i : Int) := s1 27 (.p (.sl (.sl tI)) ((q0.1.getD (i).toNat zqa).2.2.2))
abbrev e23_5 (q0 : Lqa) (i : Int) := sI 56 (((q0.1.getD (i).toNat zqa).2.2.2).length : Int)
abbrev e23_6 := hB 70300 [.own 70301]
abbrev e23_7 := hB 70303 [.own 70304]
abbrev e23_8 (q0 : Lqa) (i : Int) := sI 28 (((q0.1.getD (i).toNat zqa).2.2.2).length : Int)
abbrev e23_9 (q0 : Lqa) (i v29 : Int) := sI 7 (((((q0.1.getD (i).toNat zqa).2.2.2).getD (v29).toNat ([] : LI)).drop ((1 : Int)).toNat).length : Int)
abbrev e23_10 (q0 : Lqa) (i v29 : Int) := sI 15 (((((q0.1.getD (i).toNat zqa).2.2.2).getD (v29).toNat ([] : LI)).drop ((1 : Int)).toNat).length : Int)
abbrev e23_11 (q0 : Lqa) (i v29 : Int) := sB 72 (decide ((0 : Int) < ((((q0.1.getD (i).toNat zqa).2.2.2).getD (v29).toNat ([] : LI)).length : Int)))
abbrev e23_12 (q0 : Lqa) (i v29 : Int) := s1 8 (.pS ((((q0.1.getD (i).toNat zqa).2.2.2).getD (v29).toNat ([] : LI)).drop ((1 : Int)).toNat))
abbrev e23_13 (q0 : Lqa) (i v29 : Int) := sB 45 (decide ((0 : Int) < ((((q0.1.getD (i).toNat zqa).2.2.2).getD (v29).toNat ([] : LI)).length : Int)))
abbrev e23_14 (q0 : Lqa) (i : Int) := s1 63 (.p (.sl (.sl tI)) ((q0.1.getD (i).toNat zqa).2.2.2))
abbrev e23_15 (q0 : Lqa) (i : Int) := sI 64 (((q0.1.getD (i).toNat zqa).2.2.2).length : Int)
abbrev e23_16 (q0 : Lqa) (i : Int) := s1 36 (.p (.sl (.sl tI)) ((q0.1.getD (i).toNat zqa).2.2.2))
abbrev e23_17 (q0 : Lqa) (i : Int) := sI 37 (((q0.1.getD (i).toNat zqa).2.2.2).length : Int)
abbrev e23_18 (l703012 : LI) := hA 70301 3 tI l703012
abbrev e23_19 (l703042 : LI) := hA 70304 3 tI l703042
abbrev e23_20 (q0 : Lqa) := s1 2 (.ad tqb q0)
abbrev e23_21 (q0 : Lqa) (i v29 : Int) := sB 36 (decide ((0 : Int) < ((((q0.1.getD (i).toNat zqa).2.2.2).getD (v29).toNat ([] : LI)).length : Int)))
abbrev e23_22 (l70304 : LI) := hA 70304 3 tI l70304
abbrev e23_23 (l70301 : LI) := hA 70301 3 tI l70301
abbrev e23_24 (q0 : Lqa) := s1 4 (.cl 47 [.pt 70300 0, .ad ⟨tqb, q0⟩, .pt 70302 0, .pt 70303 0])
abbrev e23_25 (q0 : Lqa) (i v29 v8 : Int) := sI 0 (((((q0.1.getD (i).toNat zqa).2.2.2).getD (v29).toNat ([] : LI)).drop ((1 : Int)).toNat).getD (v8).toNat (0 : Int))
abbrev e23_26 (q0 : Lqa) (i v29 v8 : Int) := sI 5 (((((q0.1.getD (i).toNat zqa).2.2.2).getD (v29).toNat ([] : LI)).drop ((1 : Int)).toNat).getD (v8).toNat (0 : Int))
abbrev e23_27 := s1 1 (.cl 48 [.pt 70302 0])
abbrev e23_28 := sp 50 70300
abbrev e23_29 := sp 51 70302
abbrev e23_30 := sp 52 70303
abbrev e23_31 (c1 : LI) := hA 70304 3 tI c1
abbrev e23_32 (l70301 : LI) (i : Int) := hA 70301 3 tI (l70301.set ((i).toNat) (2 : Int))
abbrev e23_33 (ret6v : Bool × LI × LI) := hA 70301 3 tI ret6v.2.1
abbrev e23_34 (ret6v : Bool × LI × LI) := hA 70304 3 tI ret6v.2.2
abbrev e23_35 := sp 4 70303
abbrev e23_36 (c0 : LI) := hA 70301 3 tI c0
abbrev e23_37 := sp 1 70300
abbrev e23_38 := sp 3 70302
abbrev e23_39 := s1 9 (.cl 48 [.pt 70302 0])
abbrev e23_40 := sp 29 70300
abbrev e23_41 := sp 31 70302
abbrev e23_42 := sp 32 70303
abbrev e23_43 := sp 78 70300
abbrev e23_44 := sp 79 70302
abbrev e23_45 := sp 80 70303
abbrev e23_n0 : List Nat := [70300, 70301, 70302, 70303, 70304]
-- coppicer/thicket.Sorted$2
def VCc47_k1 (i : Int) (K : Bool × LI × LI → Prop) (l70301 l70304 : LI) : Prop :=
  (inIdx i l70301.length ∧ (roomN (l70304.length + [i].length) ∧ K (true, (l70301.set ((i).toNat) (2 : Int)), (l70304 ++ [i]))))
def VCc47_k2 (v29 : Int) (X1 : Int × LI × LI → Prop) (l703012 l703042 : LI) : Prop :=
  (InR (v29 + (1 : Int)) ∧ X1 ((v29 + (1 : Int)), l703012, l703042))
def VCc47_k3 (q0 : Lqa) (i : Int) (K : Bool × LI × LI → Prop) (v29 : Int) (X1 : Int × LI × LI → Prop) (v4 : Int) (l703012 l703042 : LI) : Prop :=
  ((((decide ((0 : Int) < ((((q0.1.getD (i).toNat ((0 : Int), ((0 : Int), ((0 : Int), ([] : LL))))).2.2.2).getD (v29).toNat ([] : LI)).length : Int))) && (decide ((0 : Int) ≤ v4))) = true → K (false, l703012, l703042)) ∧ (((decide ((0 : Int) < ((((q0.1.getD (i).toNat ((0 : Int), ((0 : Int), ((0 : Int), ([] : LL))))).2.2.2).getD (v29).toNat ([] : LI)).length : Int))) && (decide ((0 : Int) ≤ v4))) = false → VCc47_k2 v29 X1 l703012 l703042))
def VCc47_k4 (q0 : Lqa) (i : Int) (K : Bool × LI × LI → Prop) (v29 : Int) (X1 : Int × LI × LI → Prop) (l703012 l703042 : LI) : Prop :=
  VCc47_k3 q0 i K v29 X1 (-1 : Int) l703012 l703042
def VCc47_l2 (q0 : Lqa) (R : Int → LI → LI → (Bool × LI × LI → Prop) → Prop) (i : Int) (K : Bool × LI × LI → Prop) (v29 : Int) (X1 : Int × LI × LI → Prop) (v8 : Int) (l703012 l703042 : LI) (X2 : Int × LI × LI → Prop) : Prop :=
  (((decide (v8 < (((((q0.1.getD (i).toNat ((0 : Int), ((0 : Int), ((0 : Int), ([] : LL))))).2.2.2).getD (v29).toNat ([] : LI)).drop ((1 : Int)).toNat).length : Int))) = true → (inIdx v8 ((((q0.1.getD (i).toNat ((0 : Int), ((0 : Int), ((0 : Int), ([] : LL))))).2.2.2).getD (v29).toNat ([] : LI)).drop ((1 : Int)).toNat).length ∧ R (((((q0.1.getD (i).toNat ((0 : Int), ((0 : Int), ((0 : Int), ([] : LL))))).2.2.2).getD (v29).toNat ([] : LI)).drop ((1 : Int)).toNat).getD (v8).toNat (0 : Int)) l703012 l703042 (fun (ret6v : Bool × LI × LI) => (((!ret6v.1) = true → VCc47_k3 q0 i K v29 X1 v8 ret6v.2.1 ret6v.2.2) ∧ ((!ret6v.1) = false → (InR (v8 + (1 : Int)) ∧ X2 ((v8 + (1 : Int)), ret6v.2.1, ret6v.2.2))))))) ∧ ((decide (v8 < (((((q0.1.getD (i).toNat ((0 : Int), ((0 : Int), ((0 : Int), ([] : LL))))).2.2.2).getD (v29).toNat ([] : LI)).drop ((1 : Int)).toNat).length : Int))) = false → VCc47_k4 q0 i K v29 X1 l703012 l703042))
def VCc47_l1 (q0 : Lqa) (R : Int → LI → LI → (Bool × LI × LI → Prop) → Prop) (i : Int) (K : Bool × LI × LI → Prop) (v29 : Int) (l70301 l70304 : LI) (X1 : Int × LI × LI → Prop) : Prop :=
  (((decide (v29 < (((q0.1.getD (i).toNat ((0 : Int), ((0 : Int), ((0 : Int), ([] : LL))))).2.2.2).length : Int))) = true → (inIdx v29 ((q0.1.getD (i).toNat ((0 : Int), ((0 : Int), ((0 : Int), ([] : LL))))).2.2.2).length ∧ (((decide ((0 : Int) < ((((q0.1.getD (i).toNat ((0 : Int), ((0 : Int), ((0 : Int), ([] : LL))))).2.2.2).getD (v29).toNat ([] : LI)).length : Int))) = true → (0 ≤ (1 : Int) ∧ (1 : Int) ≤ ((((q0.1.getD (i).toNat ((0 : Int), ((0 : Int), ((0 : Int), ([] : LL))))).2.2.2).getD (v29).toNat ([] : LI)).length : Int))) ∧ (((decide ((0 : Int) < ((((q0.1.getD (i).toNat ((0 : Int), ((0 : Int), ((0 : Int), ([] : LL))))).2.2.2).getD (v29).toNat ([] : LI)).length : Int))) = true → Loop (σ := Int × LI × LI) (fun s X => VCc47_l2 q0 R i K v29 X1 s.1 s.2.1 s.2.2 X) ((0 : Int), l70301, l70304)) ∧ ((decide ((0 : Int) < ((((q0.1.getD (i).toNat ((0 : Int), ((0 : Int), ((0 : Int), ([] : LL))))).2.2.2).getD (v29).toNat ([] : LI)).length : Int))) = false → ((((decide ((0 : Int) < ((((q0.1.getD (i).toNat ((0 : Int), ((0 : Int), ((0 : Int), ([] : LL))))).2.2.2).getD (v29).toNat ([] : LI)).length : Int))) && false) = true → K (false, l70301, l70304)) ∧ (((decide ((0 : Int) < ((((q0.1.getD (i).toNat ((0 : Int), ((0 : Int), ((0 : Int), ([] : LL))))).2.2.2).getD (v29).toNat ([] : LI)).length : Int))) && false) = false → VCc47_k2 v29 X1 l70301 l70304))))))) ∧ ((decide (v29 < (((q0.1.getD (i).toNat ((0 : Int), ((0 : Int), ((0 : Int), ([] : LL))))).2.2.2).length : Int))) = false → VCc47_k1 i K l70301 l70304))
def VCc47 (q0 : Lqa) (R : Int → LI → LI → (Bool × LI × LI → Prop) → Prop) (i : Int) (c0 c1 : LI) (K : Bool × LI × LI → Prop) : Prop :=
  (inIdx i c0.length ∧ (((decide ((0 : Int) < (c0.getD ((i).toNat) (0 : Int)))) = true → (inIdx i c0.length ∧ K ((decide ((c0.getD ((i).toNat) (0 : Int)) = (2 : Int))), c0, c1))) ∧ ((decide ((0 : Int) < (c0.getD ((i).toNat) (0 : Int)))) = false → (inIdx i c0.length ∧ (inIdx i q0.1.length ∧ Loop (σ := Int × LI × LI) (fun s X => VCc47_l1 q0 R i K s.1 s.2.1 s.2.2 X) ((0 : Int), (c0.set ((i).toNat) (1 : Int)), c1))))))
abbrev bmx0 (q0 : Lqa) (i v29 : Int) := ((q0.1.getD (i).toNat zqa).2.2.2).getD (v29).toNat ([] : LI)
abbrev bmx1 (q0 : Lqa) (i v29 : Int) := (bmx0 q0 i v29).drop ((1 : Int)).toNat
abbrev bmx2 (q0 : Lqa) (i v29 : Int) := decide ((0 : Int) < ((bmx0 q0 i v29).length : Int))
theorem linkc47 (q0 : Lqa) (R : Int → LI → LI → (Bool × LI × LI → Prop) → Prop) (hR : ∀ (i : Int) (c0 c1 : LI) (K : Bool × LI × LI → Prop), R i c0 c1 K → LCalls Try.prog 47 e23_n0 [70300, 70302, 70303] [e23_6, e23_36 c0, e23_0 q0, e23_7, e23_31 c1] [.c (.pI i), .c (.ptr 70300 0), .c (.ad tqb q0), .c (.ptr 70302 0), .c (.ptr 70303 0)] (fun av hp' => ∃ y : Bool × LI × LI, av = .v (.c (.pB y.1)) ∧ hp' = [e23_6, hA 70301 3 tI y.2.1, e23_0 q0, e23_7, hA 70304 3 tI y.2.2] ∧ K y)) (i : Int) (c0 c1 : LI) (K : Bool × LI × LI → Prop) (h : VCc47 q0 R i c0 c1 K) : LCalls Try.prog 47 e23_n0 [70300, 70302, 70303] [e23_6, e23_36 c0, e23_0 q0, e23_7, e23_31 c1] [.c (.pI i), .c (.ptr 70300 0), .c (.ad tqb q0), .c (.ptr 70302 0), .c (.ptr 70303 0)] (fun av hp' => ∃ y : Bool × LI × LI, av = .v (.c (.pB y.1)) ∧ hp' = [e23_6, hA 70301 3 tI y.2.1, e23_0 q0, e23_7, hA 70304 3 tI y.2.2] ∧ K y) := by
 refine lcalls_of_aw e23_n0 [70300, 70302, 70303] [.t 6] Try.func47 rfl rfl (by kernel_rfl) (by kernel_rfl) (by kernel_rfl) ?_
 refine qV [] ⟨50, [sI 0 i, e23_37, e23_20 q0, e23_38, e23_35, e23_28, e23_29, e23_30], [e23_6, e23_36 c0, e23_0 q0, e23_7, e23_31 c1]⟩ ?_
 unfold VCc47 at h
 refine qS 1 ⟨50, [sI 0 i, e23_37, e23_20 q0, e23_38, e23_35, e23_28, e23_29, e23_30], [e23_6, e23_36 c0, e23_0 q0, e23_7, e23_31 c1]⟩ (aw_seq (sr (qA 5 2 2 ⟨50, [sI 0 i, e23_37, e23_20 q0, e23_38, e23_35, sB 13 (decide ((0 : Int) < (c0.getD ((i).toNat) (0 : Int)))), e23_28, e23_29, e23_30], [e23_6, e23_36 c0, e23_0 q0, e23_7, e23_31 c1]⟩ h fun h => nn (qI h (fun h => ?_) fun h => ?_))))
 ·exact sr (qA 6 2 3 ⟨50, [sB 6 (decide ((c0.getD ((i).toNat) (0 : Int)) = (2 : Int))), e23_28, e23_29, e23_30], [e23_6, e23_36 c0, e23_0 q0, e23_7, e23_31 c1]⟩ h fun h => nn (aw_ret (thenQ_r (lret_r (σ := Bool × LI × LI) (A := fun y => .v (.c (.pB y.1))) (H := fun y => [e23_6, hA 70301 3 tI y.2.1, e23_0 q0, e23_7, hA 70304 3 tI y.2.2]) (ob := True) ((decide ((c0.getD ((i).toNat) (0 : Int)) = (2 : Int))), c0, c1) (by kernel_rfl) trivial rfl (by kernel_rfl) (by kernel_rfl) (by kernel_rfl) h))))
 ·refine aw_skip (thenQ_n (sr (qA 4 2 1 ⟨50, [sI 0 i, e23_37, e23_20 q0, e23_38, e23_35, e23_28, e23_29, e23_30], [e23_6, hA 70301 3 tI (c0.set ((i).toNat) (1 : Int)), e23_0 q0, e23_7, e23_31 c1]⟩ h fun h => nn (aw_seq (sr (qA 8 3 4 ⟨50, [sI 0 i, e23_37, e23_38, e23_35, e23_4 q0 i, e23_8 q0 i, sI 29 (0 : Int), e23_28, e23_29, e23_30], [e23_6, hA 70301 3 tI (c0.set ((i).toNat) (1 : Int)), e23_0 q0, e23_7, e23_31 c1]⟩ h fun h => nn (withJoin (σ := LI × LI) (fun s => ⟨50, [sI 0 i, e23_37, e23_35, e23_28, e23_29, e23_30], [e23_6, hA 70301 3 tI s.1, e23_0 q0, e23_7, hA 70304 3 tI s.2]⟩) (fun s => VCc47_k1 i K s.1 s.2) (fun s h => ?_) (fun rest1 => ?_))))))))
  ·obtain ⟨l70301, l70304⟩ := s
   have h : VCc47_k1 i K l70301 l70304 := h
   unfold VCc47_k1 at h
   exact thenQ_n (sr (qA 4 2 1 ⟨50, [sI 0 i, e23_35, e23_28, e23_29, e23_30], [e23_6, e23_32 l70301 i, e23_0 q0, e23_7, e23_22 l70304]⟩ h fun h => nsr (qA 5 3 1 ⟨50, [e23_28, e23_29, e23_30], [hA 49 3 tI (l70304 ++ [i]), e23_6, e23_32 l70301 i, e23_0 q0, hB 70303 [.own 49]]⟩ h fun h => nsr (qT 1 ⟨50, [sB 6 true, e23_28, e23_29, e23_30], [hA 49 3 tI (l70304 ++ [i]), e23_6, e23_32 l70301 i, e23_0 q0, hB 70303 [.own 49]]⟩ (nn (qV [.ren 49 70304, .prune [6, 50, 51, 52] e23_n0] ⟨50, [sB 6 true, e23_28, e23_29, e23_30], [e23_6, e23_32 l70301 i, e23_0 q0, e23_7, hA 70304 3 tI (l70304 ++ [i])]⟩ (aw_ret (lret_r (σ := Bool × LI × LI) (A := fun y => .v (.c (.pB y.1))) (H := fun y => [e23_6, hA 70301 3 tI y.2.1, e23_0 q0, e23_7, hA 70304 3 tI y.2.2]) (ob := True) (true, (l70301.set ((i).toNat) (2 : Int)), (l70304 ++ [i])) (by kernel_rfl) trivial rfl (by kernel_rfl) (by kernel_rfl) (by kernel_rfl) h))))))))
  ·refine aw_block (aw_loop (σ := Int × LI × LI) (fun s => ⟨50, [sI 0 i, e23_37, e23_38, e23_35, e23_4 q0 i, e23_8 q0 i, sI 29 s.1, e23_28, e23_29, e23_30], [e23_6, hA 70301 3 tI s.2.1, e23_0 q0, e23_7, hA 70304 3 tI s.2.2]⟩) (fun s X => VCc47_l1 q0 R i K s.1 s.2.1 s.2.2 X) (s0 := ((0 : Int), (c0.set ((i).toNat) (1 : Int)), c1)) (fun s X1 h => ?_) h)
   obtain ⟨v29, l70301, l70304⟩ := s
   have h : VCc47_l1 q0 R i K v29 l70301 l70304 X1 := h
   unfold VCc47_l1 at h
   refine qS 1 ⟨50, [sI 0 i, e23_37, e23_38, e23_35, e23_4 q0 i, e23_8 q0 i, sI 29 v29, sB 30 (decide (v29 < (((q0.1.getD (i).toNat zqa).2.2.2).length : Int))), e23_28, e23_29, e23_30], [e23_6, e23_23 l70301, e23_0 q0, e23_7, e23_22 l70304]⟩ (aw_seq (qI h (fun h => ?_) fun h => ?_))
   ·refine aw_skip (thenQ_n (aw_seq (withJoin (σ := LI × LI) (fun s => ⟨50, [sI 0 i, e23_37, e23_38, e23_35, e23_4 q0 i, e23_8 q0 i, sI 29 v29, e23_28, e23_29, e23_30], [e23_6, hA 70301 3 tI s.1, e23_0 q0, e23_7, hA 70304 3 tI s.2]⟩) (fun s => VCc47_k2 v29 X1 s.1 s.2) (fun s h => ?_) (fun rest2 => ?_))))
    ·obtain ⟨l703012, l703042⟩ := s
     have h : VCc47_k2 v29 X1 l703012 l703042 := h
     unfold VCc47_k2 at h
     exact thenQ_n (aw_region (qA 2 0 1 ⟨50, [sI 0 i, e23_37, e23_38, e23_35, e23_4 q0 i, e23_8 q0 i, sI 29 (v29 + (1 : Int)), e23_28, e23_29, e23_30], [e23_6, e23_18 l703012, e23_0 q0, e23_7, e23_19 l703042]⟩ h fun h => awl_nil (thenQ_n ⟨((v29 + (1 : Int)), l703012, l703042), rfl, h⟩)))
    ·refine aw_block (sr (qA 3 0 2 ⟨50, [sI 0 i, e23_37, e23_38, e23_35, s1 8 (.pS (bmx0 q0 i v29)), e23_4 q0 i, e23_8 q0 i, sI 29 v29, e23_28, e23_29, e23_30], [e23_6, e23_23 l70301, e23_0 q0, e23_7, e23_22 l70304]⟩ h fun h => nsr ?_))
     obtain ⟨o1, h⟩ := h
     refine qR 7 ⟨50, [sI 0 i, e23_37, e23_38, e23_35, e23_4 q0 i, e23_8 q0 i, sI 29 v29, e23_21 q0 i v29, (38, [(36, true)], .v (.c (.pS (bmx1 q0 i v29)))), (39, [(36, true)], .v (.c (.cl 48 [.pt 70302 0]))), e23_28, e23_29, e23_30], [e23_6, e23_23 l70301, e23_0 q0, e23_7, e23_22 l70304]⟩ (ob := Ts 4 (((bmx2 q0 i v29) = true → True) ∧ ((bmx2 q0 i v29) = true → (0 ≤ (1 : Int) ∧ (1 : Int) ≤ ((bmx0 q0 i v29).length : Int))) ∧ ((bmx2 q0 i v29) = true → True) ∧ True)) (tsI 4 (⟨(fun _ => trivial), ⟨o1, ⟨(fun _ => trivial), trivial⟩⟩⟩)) ?_
     refine awl_inlg [.t 4] e23_n0 [(36, true)] [.c (.pS (bmx1 q0 i v29)), .c (.cl 48 [.pt 70302 0])] [] (.v (.c (.pB false))) (by kernel_rfl) rfl (by kernel_rfl) rfl (by kernel_rfl) Try.call27 (by kernel_rfl) (by kernel_rfl) Try.func27 rfl rfl (by kernel_rfl) (fun hb => ?_) (fun hb => ?_)
     ·have h := h.1 hb
      refine qV [] ⟨9, [e23_3 q0 i v29, e23_27, sI 9 i, sp 10 70300, sp 12 70302, sp 13 70303, e23_16 q0 i, e23_17 q0 i, sI 38 v29, e23_13 q0 i v29, s1 47 (.pS (bmx1 q0 i v29)), s1 48 (.cl 48 [.pt 70302 0]), sp 59 70300, sp 60 70302, sp 61 70303], [e23_6, e23_23 l70301, e23_0 q0, e23_7, e23_22 l70304]⟩ (sr (qT 1 ⟨9, [e23_3 q0 i v29, e23_27, sI 9 i, sp 10 70300, sp 12 70302, sp 13 70303, e23_16 q0 i, e23_17 q0 i, sI 38 v29, e23_13 q0 i v29, sp 59 70300, sp 60 70302, sp 61 70303], [e23_6, e23_23 l70301, e23_0 q0, e23_7, e23_22 l70304]⟩ (nsr (qT 2 ⟨9, [s1 5 (.pS (bmx1 q0 i v29)), s1 6 (.cl 48 [.pt 70302 0]), sI 9 i, sp 10 70300, sp 12 70302, sp 13 70303, e23_16 q0 i, e23_17 q0 i, sI 38 v29, e23_13 q0 i v29, sp 59 70300, sp 60 70302, sp 61 70303], [e23_6, e23_23 l70301, e23_0 q0, e23_7, e23_22 l70304]⟩ (awl_inlr [.t 4] e23_n0 [.c (.pS (bmx1 q0 i v29)), .c (.cl 48 [.pt 70302 0])] [] rfl rfl (by kernel_rfl) rfl (by kernel_rfl) Try.call52 (by kernel_rfl) (by kernel_rfl) Try.func52 rfl rfl (by kernel_rfl) ?_)))))
      refine qV [] ⟨19, [e23_3 q0 i v29, e23_27, s1 24 (.pS (bmx1 q0 i v29)), s1 25 (.cl 48 [.pt 70302 0]), sI 28 i, e23_40, e23_41, e23_42, e23_2 q0 i, e23_5 q0 i, sI 57 v29, e23_1 q0 i v29, e23_43, e23_44, e23_45], [e23_6, e23_23 l70301, e23_0 q0, e23_7, e23_22 l70304]⟩ (withJoinR (σ := Int × LI × LI) (fun s => ⟨19, [sI 4 s.1, sI 28 i, e23_40, e23_41, e23_42, e23_2 q0 i, e23_5 q0 i, sI 57 v29, e23_1 q0 i v29, e23_43, e23_44, e23_45], [e23_6, hA 70301 3 tI s.2.1, e23_0 q0, e23_7, hA 70304 3 tI s.2.2]⟩) (fun s => VCc47_k3 q0 i K v29 X1 s.1 s.2.1 s.2.2) (fun s h => ?_) (fun rest3 => ?_))
      ·obtain ⟨v4, l703012, l703042⟩ := s
       have h : VCc47_k3 q0 i K v29 X1 v4 l703012 l703042 := h
       unfold VCc47_k3 at h
       refine inlR_n (ob := True) (.v (.c (.pI v4))) (by kernel_rfl) trivial rfl ?_
       refine qL ⟨9, [sI 7 v4, sI 9 i, sp 10 70300, sp 12 70302, sp 13 70303, e23_16 q0 i, e23_17 q0 i, sI 38 v29, e23_13 q0 i v29, sp 59 70300, sp 60 70302, sp 61 70303], [e23_6, e23_18 l703012, e23_0 q0, e23_7, e23_19 l703042]⟩ (qT 2 ⟨9, [sB 4 (decide ((0 : Int) ≤ v4)), sI 9 i, sp 10 70300, sp 12 70302, sp 13 70303, e23_16 q0 i, e23_17 q0 i, sI 38 v29, e23_13 q0 i v29, sp 59 70300, sp 60 70302, sp 61 70303], [e23_6, e23_18 l703012, e23_0 q0, e23_7, e23_19 l703042]⟩ (nn (aw_ret (inlR_r (ob := True) (.v (.c (.pB (decide ((0 : Int) ≤ v4))))) (by kernel_rfl) trivial rfl ?_))))
       refine qL ⟨50, [sI 0 i, e23_37, e23_38, e23_35, e23_4 q0 i, e23_8 q0 i, sI 29 v29, e23_21 q0 i v29, sB 40 (decide ((0 : Int) ≤ v4)), e23_28, e23_29, e23_30], [e23_6, e23_18 l703012, e23_0 q0, e23_7, e23_19 l703042]⟩ (qT 1 ⟨50, [sI 0 i, e23_37, e23_38, e23_35, e23_4 q0 i, e23_8 q0 i, sI 29 v29, sB 41 ((bmx2 q0 i v29) && (decide ((0 : Int) ≤ v4))), e23_28, e23_29, e23_30], [e23_6, e23_18 l703012, e23_0 q0, e23_7, e23_19 l703042]⟩ (nn (qI h (fun h => ?_) fun h => ?_)))
       ·exact qS 1 ⟨50, [sB 6 false, e23_28, e23_29, e23_30], [e23_6, e23_18 l703012, e23_0 q0, e23_7, e23_19 l703042]⟩ (aw_ret (blockQ_r (thenQ_r (thenQ_r (blockQ_r (thenQ_r (lret_r (σ := Bool × LI × LI) (A := fun y => .v (.c (.pB y.1))) (H := fun y => [e23_6, hA 70301 3 tI y.2.1, e23_0 q0, e23_7, hA 70304 3 tI y.2.2]) (ob := True) (false, l703012, l703042) (by kernel_rfl) trivial rfl (by kernel_rfl) (by kernel_rfl) (by kernel_rfl) h)))))))
       ·exact qC ⟨50, [sI 0 i, e23_37, e23_38, e23_35, e23_4 q0 i, e23_8 q0 i, sI 29 v29, e23_28, e23_29, e23_30], [e23_6, e23_18 l703012, e23_0 q0, e23_7, e23_19 l703042]⟩ (aw_skip (blockQ_n (rest2 (l703012, l703042) h)))
      ·refine qS 1 ⟨19, [e23_3 q0 i v29, e23_27, sI 28 i, e23_40, e23_41, e23_42, e23_2 q0 i, e23_5 q0 i, sI 57 v29, e23_1 q0 i v29, e23_43, e23_44, e23_45], [e23_6, e23_23 l70301, e23_0 q0, e23_7, e23_22 l70304]⟩ (aw_seq (qS 3 ⟨19, [e23_3 q0 i v29, e23_27, e23_9 q0 i v29, sI 8 (0 : Int), sI 28 i, e23_40, e23_41, e23_42, e23_2 q0 i, e23_5 q0 i, sI 57 v29, e23_1 q0 i v29, e23_43, e23_44, e23_45], [e23_6, e23_23 l70301, e23_0 q0, e23_7, e23_22 l70304]⟩ (withJoin (σ := LI × LI) (fun s => ⟨19, [sI 28 i, e23_40, e23_41, e23_42, e23_2 q0 i, e23_5 q0 i, sI 57 v29, e23_1 q0 i v29, e23_43, e23_44, e23_45], [e23_6, hA 70301 3 tI s.1, e23_0 q0, e23_7, hA 70304 3 tI s.2]⟩) (fun s => VCc47_k4 q0 i K v29 X1 s.1 s.2) (fun s h => ?_) (fun rest4 => ?_))))
       ·obtain ⟨l703012, l703042⟩ := s
        have h : VCc47_k4 q0 i K v29 X1 l703012 l703042 := h
        unfold VCc47_k4 at h
        exact thenQ_n (qS 1 ⟨19, [sI 4 (-1 : Int), sI 28 i, e23_40, e23_41, e23_42, e23_2 q0 i, e23_5 q0 i, sI 57 v29, e23_1 q0 i v29, e23_43, e23_44, e23_45], [e23_6, e23_18 l703012, e23_0 q0, e23_7, e23_19 l703042]⟩ (aw_ret (rest3 ((-1 : Int), l703012, l703042) h)))
       ·refine aw_block (aw_loop (σ := Int × LI × LI) (fun s => ⟨19, [e23_3 q0 i v29, e23_27, e23_9 q0 i v29, sI 8 s.1, sI 28 i, e23_40, e23_41, e23_42, e23_2 q0 i, e23_5 q0 i, sI 57 v29, e23_1 q0 i v29, e23_43, e23_44, e23_45], [e23_6, hA 70301 3 tI s.2.1, e23_0 q0, e23_7, hA 70304 3 tI s.2.2]⟩) (fun s X => VCc47_l2 q0 R i K v29 X1 s.1 s.2.1 s.2.2 X) (s0 := ((0 : Int), l70301, l70304)) (fun s X2 h => ?_) h)
        obtain ⟨v8, l703012, l703042⟩ := s
        have h : VCc47_l2 q0 R i K v29 X1 v8 l703012 l703042 X2 := h
        unfold VCc47_l2 at h
        refine qS 1 ⟨19, [e23_3 q0 i v29, e23_27, e23_9 q0 i v29, sI 8 v8, sB 9 (decide (v8 < ((bmx1 q0 i v29).length : Int))), sI 28 i, e23_40, e23_41, e23_42, e23_2 q0 i, e23_5 q0 i, sI 57 v29, e23_1 q0 i v29, e23_43, e23_44, e23_45], [e23_6, e23_18 l703012, e23_0 q0, e23_7, e23_19 l703042]⟩ (aw_seq (qI h (fun h => ?_) fun h => ?_))
        ·refine aw_skip (thenQ_n (aw_seq (aw_block (sr (qT 2 ⟨19, [e23_3 q0 i v29, e23_27, sI 5 v8, e23_9 q0 i v29, sI 8 v8, sI 28 i, e23_40, e23_41, e23_42, e23_2 q0 i, e23_5 q0 i, sI 57 v29, e23_1 q0 i v29, e23_43, e23_44, e23_45], [e23_6, e23_18 l703012, e23_0 q0, e23_7, e23_19 l703042]⟩ (nsr (qA 5 3 1 ⟨19, [e23_3 q0 i v29, e23_27, sI 5 v8, e23_9 q0 i v29, sI 8 v8, s1 11 (.cl 48 [.pt 70302 0]), sI 15 ((bmx1 q0 i v29).getD (v8).toNat (0 : Int)), sI 28 i, e23_40, e23_41, e23_42, e23_2 q0 i, e23_5 q0 i, sI 57 v29, e23_1 q0 i v29, e23_43, e23_44, e23_45], [e23_6, e23_18 l703012, e23_0 q0, e23_7, e23_19 l703042]⟩ h fun h => awl_inlr [.t 3] e23_n0 [.c (.pI ((bmx1 q0 i v29).getD (v8).toNat (0 : Int)))] [.c (.ptr 70302 0)] rfl rfl (by kernel_rfl) rfl (by kernel_rfl) Try.call48 (by kernel_rfl) (by kernel_rfl) Try.func48 rfl rfl (by kernel_rfl) ?_)))))))
         refine qV [] ⟨8, [e23_25 q0 i v29 v8, sp 1 70302, e23_12 q0 i v29, e23_39, sI 13 v8, e23_10 q0 i v29, sI 16 v8, s1 19 (.cl 48 [.pt 70302 0]), sI 23 ((bmx1 q0 i v29).getD (v8).toNat (0 : Int)), sI 36 i, sp 37 70300, sp 39 70302, sp 40 70303, e23_14 q0 i, e23_15 q0 i, sI 65 v29, e23_11 q0 i v29, sp 86 70300, sp 87 70302, sp 88 70303], [e23_6, e23_18 l703012, e23_0 q0, e23_7, e23_19 l703042]⟩ (sr (qT 1 ⟨8, [e23_25 q0 i v29 v8, sp 1 70302, e23_12 q0 i v29, e23_39, sI 13 v8, e23_10 q0 i v29, sI 16 v8, sI 36 i, sp 37 70300, sp 39 70302, sp 40 70303, e23_14 q0 i, e23_15 q0 i, sI 65 v29, e23_11 q0 i v29, sp 86 70300, sp 87 70302, sp 88 70303], [e23_6, e23_18 l703012, e23_0 q0, e23_7, e23_19 l703042]⟩ (nsr (qT 2 ⟨8, [e23_24 q0, e23_26 q0 i v29 v8, e23_12 q0 i v29, e23_39, sI 13 v8, e23_10 q0 i v29, sI 16 v8, sI 36 i, sp 37 70300, sp 39 70302, sp 40 70303, e23_14 q0 i, e23_15 q0 i, sI 65 v29, e23_11 q0 i v29, sp 86 70300, sp 87 70302, sp 88 70303], [e23_6, e23_18 l703012, e23_0 q0, e23_7, e23_19 l703042]⟩ (awl_lcall (σ := Bool × LI × LI) e23_n0 [70300, 70302, 70303] [.c (.pI ((bmx1 q0 i v29).getD (v8).toNat (0 : Int)))] [.c (.ptr 70300 0), .c (.ad tqb q0), .c (.ptr 70302 0), .c (.ptr 70303 0)] (fun ret6v => .v (.c (.pB ret6v.1))) (fun ret6v => [e23_6, e23_33 ret6v, e23_0 q0, e23_7, e23_34 ret6v]) (_) [e23_6, e23_18 l703012, e23_0 q0, e23_7, e23_19 l703042] (fun ret6v => ⟨8, [sB 6 ret6v.1, e23_24 q0, e23_26 q0 i v29 v8, e23_12 q0 i v29, e23_39, sI 13 v8, e23_10 q0 i v29, sI 16 v8, sI 36 i, sp 37 70300, sp 39 70302, sp 40 70303, e23_14 q0 i, e23_15 q0 i, sI 65 v29, e23_11 q0 i v29, sp 86 70300, sp 87 70302, sp 88 70303], [e23_6, e23_33 ret6v, e23_0 q0, e23_7, e23_34 ret6v]⟩) rfl rfl (by kernel_rfl) rfl (by kernel_rfl) Try.call47 (by kernel_rfl) (by kernel_rfl) (by kernel_rfl) (fun _ _ => rfl) (fun _ => by kernel_rfl) (hR ((bmx1 q0 i v29).getD (v8).toNat (0 : Int)) l703012 l703042 _ h) (fun ret6v h => ?_))))))
         refine qL ⟨8, [sB 6 ret6v.1, e23_12 q0 i v29, e23_39, sI 13 v8, e23_10 q0 i v29, sI 16 v8, sI 36 i, sp 37 70300, sp 39 70302, sp 40 70303, e23_14 q0 i, e23_15 q0 i, sI 65 v29, e23_11 q0 i v29, sp 86 70300, sp 87 70302, sp 88 70303], [e23_6, e23_33 ret6v, e23_0 q0, e23_7, e23_34 ret6v]⟩ (qT 2 ⟨8, [sB 3 (!ret6v.1), e23_12 q0 i v29, e23_39, sI 13 v8, e23_10 q0 i v29, sI 16 v8, sI 36 i, sp 37 70300, sp 39 70302, sp 40 70303, e23_14 q0 i, e23_15 q0 i, sI 65 v29, e23_11 q0 i v29, sp 86 70300, sp 87 70302, sp 88 70303], [e23_6, e23_33 ret6v, e23_0 q0, e23_7, e23_34 ret6v]⟩ (nn (aw_ret (inlR_r (ob := True) (.v (.c (.pB (!ret6v.1)))) (by kernel_rfl) trivial rfl ?_))))
         refine qL ⟨19, [e23_3 q0 i v29, e23_27, sI 5 v8, e23_9 q0 i v29, sI 8 v8, sB 16 (!ret6v.1), sI 28 i, e23_40, e23_41, e23_42, e23_2 q0 i, e23_5 q0 i, sI 57 v29, e23_1 q0 i v29, e23_43, e23_44, e23_45], [e23_6, e23_33 ret6v, e23_0 q0, e23_7, e23_34 ret6v]⟩ (nn (qI h (fun h => ?_) fun h => ?_))
         ·exact qS 2 ⟨19, [sI 4 v8, sI 28 i, e23_40, e23_41, e23_42, e23_2 q0 i, e23_5 q0 i, sI 57 v29, e23_1 q0 i v29, e23_43, e23_44, e23_45], [e23_6, e23_33 ret6v, e23_0 q0, e23_7, e23_34 ret6v]⟩ (aw_ret (blockQ_r (thenQ_r (thenQ_r (blockQ_r (thenQ_r (rest3 (v8, ret6v.2.1, ret6v.2.2) h)))))))
         ·exact aw_skip (blockQ_n (thenQ_n (aw_region (qA 2 0 1 ⟨19, [e23_3 q0 i v29, e23_27, e23_9 q0 i v29, sI 8 (v8 + (1 : Int)), sI 28 i, e23_40, e23_41, e23_42, e23_2 q0 i, e23_5 q0 i, sI 57 v29, e23_1 q0 i v29, e23_43, e23_44, e23_45], [e23_6, e23_33 ret6v, e23_0 q0, e23_7, e23_34 ret6v]⟩ h fun h => awl_nil (thenQ_n ⟨((v8 + (1 : Int)), ret6v.2.1, ret6v.2.2), rfl, h⟩)))))
        ·exact qC ⟨19, [sI 28 i, e23_40, e23_41, e23_42, e23_2 q0 i, e23_5 q0 i, sI 57 v29, e23_1 q0 i v29, e23_43, e23_44, e23_45], [e23_6, e23_18 l703012, e23_0 q0, e23_7, e23_19 l703042]⟩ (aw_exit (thenQ_x (thenQ_x (blockQ_hit (rest4 (l703012, l703042) h)))))
     ·have h := h.2 hb
      refine qL ⟨50, [sI 0 i, e23_37, e23_38, e23_35, e23_4 q0 i, e23_8 q0 i, sI 29 v29, e23_21 q0 i v29, (40, [(36, true)], .v (.c (.pB false))), e23_28, e23_29, e23_30], [e23_6, e23_23 l70301, e23_0 q0, e23_7, e23_22 l70304]⟩ (qT 1 ⟨50, [sI 0 i, e23_37, e23_38, e23_35, e23_4 q0 i, e23_8 q0 i, sI 29 v29, sB 41 ((bmx2 q0 i v29) && false), e23_28, e23_29, e23_30], [e23_6, e23_23 l70301, e23_0 q0, e23_7, e23_22 l70304]⟩ (nn (qI h (fun h => ?_) fun h => ?_)))
      ·exact qS 1 ⟨50, [sB 6 false, e23_28, e23_29, e23_30], [e23_6, e23_23 l70301, e23_0 q0, e23_7, e23_22 l70304]⟩ (aw_ret (blockQ_r (thenQ_r (thenQ_r (blockQ_r (thenQ_r (lret_r (σ := Bool × LI × LI) (A := fun y => .v (.c (.pB y.1))) (H := fun y => [e23_6, hA 70301 3 tI y.2.1, e23_0 q0, e23_7, hA 70304 3 tI y.2.2]) (ob := True) (false, l70301, l70304) (by kernel_rfl) trivial rfl (by kernel_rfl) (by kernel_rfl) (by kernel_rfl) h)))))))
      ·exact qC ⟨50, [sI 0 i, e23_37, e23_38, e23_35, e23_4 q0 i, e23_8 q0 i, sI 29 v29, e23_28, e23_29, e23_30], [e23_6, e23_23 l70301, e23_0 q0, e23_7, e23_22 l70304]⟩ (aw_skip (blockQ_n (rest2 (l70301, l70304) h)))
   ·exact qC ⟨50, [sI 0 i, e23_37, e23_35, e23_28, e23_29, e23_30], [e23_6, e23_23 l70301, e23_0 q0, e23_7, e23_22 l70304]⟩ (aw_exit (thenQ_x (thenQ_x (blockQ_hit (rest1 (l70301, l70304) h)))))
def VCc47_it (q0 : Lqa) : Nat → Int → LI → LI → (Bool × LI × LI → Prop) → Prop
  | 0 => fun _ _ _ _ => False
  | n + 1 => fun i c0 c1 K => VCc47 q0 (VCc47_it q0 n) i c0 c1 K
def VCcr47 (q0 : Lqa) (i : Int) (c0 c1 : LI) (K : Bool × LI × LI → Prop) : Prop := ∃ n, VCc47_it q0 n i c0 c1 K
theorem linkci47 (q0 : Lqa) : ∀ (n : Nat) (i : Int) (c0 c1 : LI) (K : Bool × LI × LI → Prop), VCc47_it q0 n i c0 c1 K → LCalls Try.prog 47 e23_n0 [70300, 70302, 70303] [e23_6, e23_36 c0, e23_0 q0, e23_7, e23_31 c1] [.c (.pI i), .c (.ptr 70300 0), .c (.ad tqb q0), .c (.ptr 70302 0), .c (.ptr 70303 0)] (fun av hp' => ∃ y : Bool × LI × LI, av = .v (.c (.pB y.1)) ∧ hp' = [e23_6, hA 70301 3 tI y.2.1, e23_0 q0, e23_7, hA 70304 3 tI y.2.2] ∧ K y)
  | 0, _, _, _, _, h => False.elim h
  | n + 1, i, c0, c1, K, h => linkc47 q0 (VCc47_it q0 n) (linkci47 q0 n) i c0 c1 K h
theorem linkcr47 (q0 : Lqa) (i : Int) (c0 c1 : LI) (K : Bool × LI × LI → Prop) (h : VCcr47 q0 i c0 c1 K) : LCalls Try.prog 47 e23_n0 [70300, 70302, 70303] [e23_6, e23_36 c0, e23_0 q0, e23_7, e23_31 c1] [.c (.pI i), .c (.ptr 70300 0), .c (.ad tqb q0), .c (.ptr 70302 0), .c (.ptr 70303 0)] (fun av hp' => ∃ y : Bool × LI × LI, av = .v (.c (.pB y.1)) ∧ hp' = [e23_6, hA 70301 3 tI y.2.1, e23_0 q0, e23_7, hA 70304 3 tI y.2.2] ∧ K y) := by
  obtain ⟨n, h⟩ := h
  exact linkci47 q0 n i c0 c1 K h
end Dec
