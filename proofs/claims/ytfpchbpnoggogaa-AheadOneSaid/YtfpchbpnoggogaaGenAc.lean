/-
  Printed by dec2.py: of each function its plain demand, and that the demand gives the contract.
-/
import Derived.Test.YtfpchbpnoggogaaGenAb
set_option linter.unusedVariables false
set_option linter.unusedSimpArgs false
set_option maxRecDepth 100000
namespace Dec
open Go Go.RowKit Go.Proofs

abbrev e29_0 (ret23v : Int × Int × Int × (List (Int × LI)) × Int × LI × LI) : Nat × Path × Con := hB 50000 [.pI ret23v.1, .pI ret23v.2.1, .pI ret23v.2.2.1, .p (.sl (.pr (.int .i64) (.sl (.int .i64)))) ret23v.2.2.2.1, .own 50001, .own 50002, .pW ret23v.2.2.2.2.1]
abbrev e29_1 (ret23v : Int × Int × Int × (List (Int × LI)) × Int × LI × LI) : Nat × Path × Con := hA 50001 28 (.int .u32) ret23v.2.2.2.2.2.1
abbrev e29_2 (ret23v : Int × Int × Int × (List (Int × LI)) × Int × LI × LI) : Nat × Path × Con := hA 50002 28 (.int .u32) ret23v.2.2.2.2.2.2
abbrev e29_3 (g : (Int × (Int × (Int × (List (Int × LI)))))) : Nat × Path × Con := hB 30000 [.pI g.1, .pI g.2.1, .pI g.2.2.1, .p (.sl (.pr (.int .i64) (.sl (.int .i64)))) g.2.2.2]
abbrev e29_4 (ret23v : Int × Int × Int × (List (Int × LI)) × Int × LI × LI) (v19 : Int) : Nat × Path × Con := hB 31100 [.pI ((ret23v.2.2.2.1.getD (v19).toNat ((0 : Int), ([] : LI))).1), .pS ((ret23v.2.2.2.1.getD (v19).toNat ((0 : Int), ([] : LI))).2)]
abbrev e29_5 (l32 : LI) (g : (Int × (Int × (Int × (List (Int × LI)))))) (sym : Int) : Nat × Path × AV := s1 105 (.cl 56 [.ad ⟨(.int .i64), (l32.getD ((((l32.length : Int) - (1 : Int))).toNat) (0 : Int))⟩, .ad ⟨(.pr (.int .i64) (.pr (.int .i64) (.pr (.int .i64) (.sl (.pr (.int .i64) (.sl (.int .i64))))))), g⟩, .pt 30001 0, .ad ⟨(.int .i64), sym⟩])
abbrev e29_6 (l32 : LI) : Nat × Path × Con := hB 30200 [.vw 30201 0 ((((l32.length : Int) - (1 : Int))).toNat) 1]
abbrev e29_7 : Nat × Path × Con := hB 30001 [.ptr 50000 0]
abbrev e29_8 (g : (Int × (Int × (Int × (List (Int × LI)))))) : Nat × Path × AV := s1 2 (.ad (.pr (.int .i64) (.pr (.int .i64) (.pr (.int .i64) (.sl (.pr (.int .i64) (.sl (.int .i64))))))) g)
abbrev e29_9 (ret23v : Int × Int × Int × (List (Int × LI)) × Int × LI × LI) (v19 : Int) : Nat × Path × Con := hB 31300 [.pI ((ret23v.2.2.2.1.getD (v19).toNat ((0 : Int), ([] : LI))).1), .pS ((ret23v.2.2.2.1.getD (v19).toNat ((0 : Int), ([] : LI))).2)]
abbrev e29_10 (l32 : LI) (g : (Int × (Int × (Int × (List (Int × LI)))))) (sym : Int) : Nat × Path × AV := s1 22 (.cl 56 [.ad ⟨(.int .i64), (l32.getD ((((l32.length : Int) - (1 : Int))).toNat) (0 : Int))⟩, .ad ⟨(.pr (.int .i64) (.pr (.int .i64) (.pr (.int .i64) (.sl (.pr (.int .i64) (.sl (.int .i64))))))), g⟩, .pt 30001 0, .ad ⟨(.int .i64), sym⟩])
abbrev e29_11 (g : (Int × (Int × (Int × (List (Int × LI)))))) (v8 : Int) : Nat × Path × Con := hB 30900 [.pI ((g.2.2.2.getD (v8).toNat ((0 : Int), ([] : LI))).1), .pS ((g.2.2.2.getD (v8).toNat ((0 : Int), ([] : LI))).2)]
abbrev e29_12 (g : (Int × (Int × (Int × (List (Int × LI)))))) : Nat × Path × AV := s1 21 (.ad (.pr (.int .i64) (.pr (.int .i64) (.pr (.int .i64) (.sl (.pr (.int .i64) (.sl (.int .i64))))))) g)
abbrev e29_13 (g : (Int × (Int × (Int × (List (Int × LI)))))) (v8 : Int) (l32 : LI) : Nat × Path × AV := sB 97 (decide ((g.2.2.2.getD (v8).toNat ((0 : Int), ([] : LI))).1 = ((l32.getD ((((l32.length : Int) - (1 : Int))).toNat) (0 : Int)) - g.1)))
abbrev e29_14 (l32 : LI) (g : (Int × (Int × (Int × (List (Int × LI)))))) (sym : Int) : Nat × Path × AV := s1 48 (.cl 56 [.ad ⟨(.int .i64), (l32.getD ((((l32.length : Int) - (1 : Int))).toNat) (0 : Int))⟩, .ad ⟨(.pr (.int .i64) (.pr (.int .i64) (.pr (.int .i64) (.sl (.pr (.int .i64) (.sl (.int .i64))))))), g⟩, .pt 30001 0, .ad ⟨(.int .i64), sym⟩])
abbrev e29_15 (l32 : LI) (g : (Int × (Int × (Int × (List (Int × LI)))))) (sym : Int) : Nat × Path × AV := s1 1 (.cl 56 [.ad ⟨(.int .i64), (l32.getD ((((l32.length : Int) - (1 : Int))).toNat) (0 : Int))⟩, .ad ⟨(.pr (.int .i64) (.pr (.int .i64) (.pr (.int .i64) (.sl (.pr (.int .i64) (.sl (.int .i64))))))), g⟩, .pt 30001 0, .ad ⟨(.int .i64), sym⟩])
abbrev e29_16 (g : (Int × (Int × (Int × (List (Int × LI)))))) : Nat × Path × AV := s1 125 (.ad (.pr (.int .i64) (.pr (.int .i64) (.pr (.int .i64) (.sl (.pr (.int .i64) (.sl (.int .i64))))))) g)
abbrev e29_17 (l32 : LI) : Nat × Path × Con := hA 30201 3 (.int .i64) l32
abbrev e29_18 (g : (Int × (Int × (Int × (List (Int × LI)))))) (v8 : Int) (l32 : LI) : Nat × Path × AV := sB 40 (decide ((g.2.2.2.getD (v8).toNat ((0 : Int), ([] : LI))).1 = ((l32.getD ((((l32.length : Int) - (1 : Int))).toNat) (0 : Int)) - g.1)))
abbrev e29_19 (g : (Int × (Int × (Int × (List (Int × LI)))))) : Nat × Path × AV := s1 42 (.ad (.pr (.int .i64) (.pr (.int .i64) (.pr (.int .i64) (.sl (.pr (.int .i64) (.sl (.int .i64))))))) g)
abbrev e29_20 (ret23v : Int × Int × Int × (List (Int × LI)) × Int × LI × LI) : Nat × Path × AV := s1 100 (.p (.sl (.pr (.int .i64) (.sl (.int .i64)))) ret23v.2.2.2.1)
abbrev e29_21 (g : (Int × (Int × (Int × (List (Int × LI)))))) : Nat × Path × AV := s1 68 (.ad (.pr (.int .i64) (.pr (.int .i64) (.pr (.int .i64) (.sl (.pr (.int .i64) (.sl (.int .i64))))))) g)
abbrev e29_22 (g : (Int × (Int × (Int × (List (Int × LI)))))) : Nat × Path × AV := s1 104 (.p (.sl (.pr (.int .i64) (.sl (.int .i64)))) g.2.2.2)
abbrev e29_23 (seen : LI) : Nat × Path × Con := hA 31101 28 (.int .u32) seen
abbrev e29_24 (g : (Int × (Int × (Int × (List (Int × LI)))))) : Nat × Path × Con := hB 2 [.pI g.1, .pI g.2.1, .pI g.2.2.1, .p (.sl (.pr (.int .i64) (.sl (.int .i64)))) g.2.2.2]
abbrev e29_25 (g : (Int × (Int × (Int × (List (Int × LI)))))) (v4 : Int) : Nat × Path × AV := s1 1 (.ad (.sl (.int .i64)) ((g.2.2.2.getD (v4).toNat ((0 : Int), ([] : LI))).2))
abbrev e29_26 (g : (Int × (Int × (Int × (List (Int × LI)))))) (v8 : Int) (l32 : LI) : Nat × Path × AV := sB 14 (decide ((g.2.2.2.getD (v8).toNat ((0 : Int), ([] : LI))).1 = ((l32.getD ((((l32.length : Int) - (1 : Int))).toNat) (0 : Int)) - g.1)))
abbrev e29_27 (ret23v : Int × Int × Int × (List (Int × LI)) × Int × LI × LI) (v19 : Int) : Nat × Path × AV := sI 10 (((ret23v.2.2.2.1.getD (v19).toNat ((0 : Int), ([] : LI))).2).length : Int)
abbrev e29_28 (ret23v : Int × Int × Int × (List (Int × LI)) × Int × LI × LI) : Nat × Path × AV := s1 17 (.p (.sl (.pr (.int .i64) (.sl (.int .i64)))) ret23v.2.2.2.1)
abbrev e29_29 (ret23v : Int × Int × Int × (List (Int × LI)) × Int × LI × LI) : Nat × Path × AV := s1 43 (.p (.sl (.pr (.int .i64) (.sl (.int .i64)))) ret23v.2.2.2.1)
abbrev e29_30 (g : (Int × (Int × (Int × (List (Int × LI)))))) (v8 : Int) : Nat × Path × AV := sI 10 (((g.2.2.2.getD (v8).toNat ((0 : Int), ([] : LI))).2).length : Int)
abbrev e29_31 (l32 : LI) : Nat × Path × Con := hB 9 [.vw 32 0 ((((l32.length : Int) - (1 : Int))).toNat) 1]
abbrev e29_32 (g : (Int × (Int × (Int × (List (Int × LI)))))) : Nat × Path × AV := s1 21 (.p (.sl (.pr (.int .i64) (.sl (.int .i64)))) g.2.2.2)
abbrev e29_33 (ret23v : Int × Int × Int × (List (Int × LI)) × Int × LI × LI) (v19 : Int) : Nat × Path × AV := s1 9 (.pS ((ret23v.2.2.2.1.getD (v19).toNat ((0 : Int), ([] : LI))).2))
abbrev e29_34 (ret23v : Int × Int × Int × (List (Int × LI)) × Int × LI × LI) : Nat × Path × AV := sI 101 (ret23v.2.2.2.1.length : Int)
abbrev e29_35 (l32 : LI) : Nat × Path × Con := hB 11 [.pI (l32.getD ((((l32.length : Int) - (1 : Int))).toNat) (0 : Int))]
abbrev e29_36 (g : (Int × (Int × (Int × (List (Int × LI)))))) : Nat × Path × AV := s1 47 (.p (.sl (.pr (.int .i64) (.sl (.int .i64)))) g.2.2.2)
abbrev e29_37 (g : (Int × (Int × (Int × (List (Int × LI)))))) (v8 : Int) : Nat × Path × AV := s1 9 (.pS ((g.2.2.2.getD (v8).toNat ((0 : Int), ([] : LI))).2))
abbrev e29_38 (w : LI) : Nat × Path × AV := s1 1 (.pS w)
abbrev e29_39 (g : (Int × (Int × (Int × (List (Int × LI)))))) : Nat × Path × AV := sI 111 (g.2.2.2.length : Int)
abbrev e29_40 : Nat × Path × AV := sp 0 50000
abbrev e29_41 (g : (Int × (Int × (Int × (List (Int × LI)))))) : Nat × Path × AV := s1 0 (.p (.sl (.pr (.int .i64) (.sl (.int .i64)))) g.2.2.2)
abbrev e29_42 (l32 : LI) (g : (Int × (Int × (Int × (List (Int × LI)))))) (sym : Int) : Nat × Path × AV := s1 68 (.cl 56 [.ad ⟨(.int .i64), (l32.getD ((((l32.length : Int) - (1 : Int))).toNat) (0 : Int))⟩, .ad ⟨(.pr (.int .i64) (.pr (.int .i64) (.pr (.int .i64) (.sl (.pr (.int .i64) (.sl (.int .i64))))))), g⟩, .pt 30001 0, .ad ⟨(.int .i64), sym⟩])
abbrev e29_43 (g : (Int × (Int × (Int × (List (Int × LI)))))) : Nat × Path × AV := s1 6 (.ad (.pr (.int .i64) (.pr (.int .i64) (.pr (.int .i64) (.sl (.pr (.int .i64) (.sl (.int .i64))))))) g)
abbrev e29_44 (ret23v : Int × Int × Int × (List (Int × LI)) × Int × LI × LI) : Nat × Path × AV := sI 18 (ret23v.2.2.2.1.length : Int)
abbrev e29_45 : Nat × Path × AV := sp 57 50000
abbrev e29_46 (ret23v : Int × Int × Int × (List (Int × LI)) × Int × LI × LI) : Nat × Path × AV := sI 44 (ret23v.2.2.2.1.length : Int)
abbrev e29_47 : Nat × Path × AV := s1 131 (.own 30202)
abbrev e29_48 : Nat × Path × AV := s1 8 (.own 5008)
abbrev e29_49 : Nat × Path × AV := s1 86 (.own 31101)
abbrev e29_50 : Nat × Path × AV := sp 7 30001
abbrev e29_51 (w : LI) : Nat × Path × AV := s1 20 (.pS w)
abbrev e29_52 : Nat × Path × Con := hB 30200 [.own 30201]
abbrev e29_53 (g : (Int × (Int × (Int × (List (Int × LI)))))) : Nat × Path × AV := sI 28 (g.2.2.2.length : Int)
abbrev e29_54 (l32 : LI) : Nat × Path × Con := hA 32 3 (.int .i64) l32
abbrev e29_55 (g : (Int × (Int × (Int × (List (Int × LI)))))) : Nat × Path × AV := sI 54 (g.2.2.2.length : Int)
abbrev e29_56 (g : (Int × (Int × (Int × (List (Int × LI)))))) (v8 : Int) : Nat × Path × AV := (16, [(14, true)], .v (.agg [.pI ((g.2.2.2.getD (v8).toNat ((0 : Int), ([] : LI))).1), .pS ((g.2.2.2.getD (v8).toNat ((0 : Int), ([] : LI))).2)]))
abbrev e29_57 : Nat × Path × AV := sp 26 30001
abbrev e29_58 : Nat × Path × AV := sp 28 30200
abbrev e29_59 (ret23v : Int × Int × Int × (List (Int × LI)) × Int × LI × LI) (v19 : Int) (v11 : Int) : Nat × Path × AV := sI 8 (((ret23v.2.2.2.1.getD (v19).toNat ((0 : Int), ([] : LI))).2).getD (v11).toNat (0 : Int))
abbrev e29_60 (w : LI) : Nat × Path × AV := s1 124 (.pS w)
abbrev e29_61 (w : LI) : Nat × Path × AV := s1 127 (.pS w)
abbrev e29_62 (w : LI) : Nat × Path × AV := s1 44 (.pS w)
abbrev e29_63 (l32 : LI) : Nat × Path × AV := s1 1 (.ad (.int .i64) (l32.getD ((((l32.length : Int) - (1 : Int))).toNat) (0 : Int)))
abbrev e29_64 (g : (Int × (Int × (Int × (List (Int × LI)))))) (v8 : Int) (v11 : Int) : Nat × Path × AV := sI 8 (((g.2.2.2.getD (v8).toNat ((0 : Int), ([] : LI))).2).getD (v11).toNat (0 : Int))
abbrev e29_65 : Nat × Path × AV := s1 27 (.own 30202)
abbrev e29_66 (g : (Int × (Int × (Int × (List (Int × LI)))))) (v8 : Int) : Nat × Path × Con := hB 3 [.pI ((g.2.2.2.getD (v8).toNat ((0 : Int), ([] : LI))).1), .pS ((g.2.2.2.getD (v8).toNat ((0 : Int), ([] : LI))).2)]
abbrev e29_67 (g : (Int × (Int × (Int × (List (Int × LI)))))) : Nat × Path × AV := s1 67 (.p (.sl (.pr (.int .i64) (.sl (.int .i64)))) g.2.2.2)
abbrev e29_68 : Nat × Path × AV := s1 90019 (.yv 37000)
abbrev e29_69 (l32 : LI) : Nat × Path × Con := hA 30201 3 (.int .i64) (l32.take ((((l32.length : Int) - (1 : Int))).toNat))
abbrev e29_70 : Nat × Path × AV := sp 130 30001
abbrev e29_71 : Nat × Path × AV := sp 132 30200
abbrev e29_72 : Nat × Path × AV := sp 128 30000
abbrev e29_73 : Nat × Path × AV := sp 133 30001
abbrev e29_74 : Nat × Path × AV := sp 45 30000
abbrev e29_75 : Nat × Path × AV := sp 50 30001
abbrev e29_76 : Nat × Path × AV := s1 27 (.own 30400)
abbrev e29_77 : Nat × Path × AV := s1 48 (.own 30202)
abbrev e29_78 : Nat × Path × AV := sp 60 30900
abbrev e29_79 : Nat × Path × AV := sp 60 31300
abbrev e29_80 : Nat × Path × AV := sp 83 50000
abbrev e29_81 : Nat × Path × AV := sp 88 31100
abbrev e29_82 : Nat × Path × AV := s1 74 (.own 30202)
abbrev e29_83 : Nat × Path × AV := s1 29 (.own 31101)
abbrev e29_84 (g : (Int × (Int × (Int × (List (Int × LI)))))) : Nat × Path × AV := sI 7 (g.2.2.2.length : Int)
abbrev e29_85 : Nat × Path × AV := s1 0 (.yv 37000)
abbrev e29_86 (w : LI) : Nat × Path × AV := s1 41 (.pS w)
abbrev e29_87 : Nat × Path × AV := sp 47 30001
abbrev e29_88 : Nat × Path × AV := sp 49 30200
abbrev e29_89 : Nat × Path × Con := hB 9 [.own 32]
abbrev e29_90 : Nat × Path × AV := sp 73 30001
abbrev e29_91 : Nat × Path × AV := sp 75 30200
abbrev e29_92 : Nat × Path × AV := sp 26 50000
abbrev e29_93 : Nat × Path × AV := sp 31 31100
abbrev e29_94 : Nat × Path × AV := sp 71 30000
abbrev e29_95 : Nat × Path × AV := sp 76 30001
abbrev e29_96 : Nat × Path × AV := s1 3 (.own 31101)
abbrev e29_97 : Nat × Path × AV := s1 3 (.own 12)
-- coppicer/ahead.Parse
def VC29_k2 (w : LI) (K : LI × Int → Prop) (atv : Int) (out : LI) : Prop :=
  (((decide (atv < (w.length : Int))) = true → K (([] : LI), (5 : Int))) ∧ ((decide (atv < (w.length : Int))) = false → K (out, (0 : Int))))

def VC29_k3 (X1 : Int × LI × LI → Prop) (atv2 : Int) (l322 : LI) (out2 : LI) : Prop :=
  X1 (atv2, l322, out2)

abbrev VC29_s1 (t0 : Nat) : List (Nat × AV) := [(9, .v (.c (.ptr t0 0)))]

def VC29_y1 (a83 : Int) (a84 : Int) (c0 : LI) (Kt : LI → Prop) (Kf : (Int × LI) → Prop) : Prop :=
  (roomN (c0.length + [a84].length) ∧ Kt (c0 ++ [a84]))

def VC29_k6 (atv : Int) (out : LI) (X1 : Int × LI × LI → Prop) (v4 : Int) (l30201 : LI) : Prop :=
  VC29_k3 X1 atv l30201 (out ++ [v4])

def VC29_l2 (g : (Int × (Int × (Int × (List (Int × LI)))))) (atv : Int) (out : LI) (X1 : Int × LI × LI → Prop) (v4 : Int) (i : Int) (l30201 : LI) (X2 : Int × LI → Prop) : Prop :=
  (((decide ((0 : Int) ≤ i)) = true → (inIdx i ((g.2.2.2.getD (v4).toNat ((0 : Int), ([] : LI))).2).length ∧ VC29_y1 i (((g.2.2.2.getD (v4).toNat ((0 : Int), ([] : LI))).2).getD (i).toNat (0 : Int)) l30201 (fun (yt17v : LI) => (InR (i - (1 : Int)) ∧ X2 ((i - (1 : Int)), yt17v))) (fun (yf17 : Int × LI) => False))) ∧ ((decide ((0 : Int) ≤ i)) = false → VC29_k6 atv out X1 v4 l30201))

def VC29_k5 (g : (Int × (Int × (Int × (List (Int × LI)))))) (K : LI × Int → Prop) (atv : Int) (l32 : LI) (out : LI) (X1 : Int × LI × LI → Prop) (v4 : Int) : Prop :=
  (((decide (v4 < (0 : Int))) = true → K (([] : LI), (5 : Int))) ∧ ((decide (v4 < (0 : Int))) = false → (roomN (out.length + [v4].length) ∧ (inIdx v4 g.2.2.2.length ∧ (InR ((((g.2.2.2.getD (v4).toNat ((0 : Int), ([] : LI))).2).length : Int) - (1 : Int)) ∧ Loop (σ := Int × LI) (fun s X => VC29_l2 g atv out X1 v4 s.1 s.2 X) (((((g.2.2.2.getD (v4).toNat ((0 : Int), ([] : LI))).2).length : Int) - (1 : Int)), (l32.take ((((l32.length : Int) - (1 : Int))).toNat))))))))

def VC29_k7 (g : (Int × (Int × (Int × (List (Int × LI)))))) (K : LI × Int → Prop) (atv : Int) (l32 : LI) (out : LI) (X1 : Int × LI × LI → Prop) : Prop :=
  VC29_k5 g K atv l32 out X1 (-1 : Int)

def VC29_k8 (g : (Int × (Int × (Int × (List (Int × LI)))))) (K : LI × Int → Prop) (atv : Int) (l32 : LI) (out : LI) (X1 : Int × LI × LI → Prop) (v8 : Int) (X3 : Int → Prop) (v6 : Bool) : Prop :=
  ((v6 = true → VC29_k5 g K atv l32 out X1 v8) ∧ (v6 = false → (InR (v8 + (1 : Int)) ∧ X3 (v8 + (1 : Int)))))

def VC29_k10 (g : (Int × (Int × (Int × (List (Int × LI)))))) (K : LI × Int → Prop) (atv : Int) (l32 : LI) (out : LI) (X1 : Int × LI × LI → Prop) (sym : Int) (v8 : Int) (X3 : Int → Prop) (out2 : Int) : Prop :=
  gcall (α := Bool) (decide ((g.2.2.2.getD (v8).toNat ((0 : Int), ([] : LI))).1 = ((l32.getD ((((l32.length : Int) - (1 : Int))).toNat) (0 : Int)) - g.1))) (VC47 out2 sym) false (fun (ret19v : Bool) => VC29_k8 g K atv l32 out X1 v8 X3 ((decide ((g.2.2.2.getD (v8).toNat ((0 : Int), ([] : LI))).1 = ((l32.getD ((((l32.length : Int) - (1 : Int))).toNat) (0 : Int)) - g.1))) && ret19v))

def VC29_k9 (g : (Int × (Int × (Int × (List (Int × LI)))))) (K : LI × Int → Prop) (ret23v : Int × Int × Int × (List (Int × LI)) × Int × LI × LI) (atv : Int) (l32 : LI) (out : LI) (X1 : Int × LI × LI → Prop) (sym : Int) (v8 : Int) (X3 : Int → Prop) (v4 : Int) (v5 : Bool) : Prop :=
  ((v5 = true → (inIdx ((g.2.2.2.getD (v8).toNat ((0 : Int), ([] : LI))).1) ret23v.2.2.2.2.2.2.length ∧ VC29_k10 g K atv l32 out X1 sym v8 X3 (bOr .u32 v4 (ret23v.2.2.2.2.2.2.getD (((g.2.2.2.getD (v8).toNat ((0 : Int), ([] : LI))).1).toNat) (0 : Int))))) ∧ (v5 = false → VC29_k10 g K atv l32 out X1 sym v8 X3 v4))

def VC29_k11 (g : (Int × (Int × (Int × (List (Int × LI)))))) (K : LI × Int → Prop) (ret23v : Int × Int × Int × (List (Int × LI)) × Int × LI × LI) (atv : Int) (l32 : LI) (out : LI) (X1 : Int × LI × LI → Prop) (sym : Int) (v8 : Int) (X3 : Int → Prop) (out2 : Int) : Prop :=
  VC29_k9 g K ret23v atv l32 out X1 sym v8 X3 out2 true

def VC29_l4 (g : (Int × (Int × (Int × (List (Int × LI)))))) (K : LI × Int → Prop) (ret23v : Int × Int × Int × (List (Int × LI)) × Int × LI × LI) (atv : Int) (l32 : LI) (out : LI) (X1 : Int × LI × LI → Prop) (sym : Int) (v8 : Int) (X3 : Int → Prop) (out2 : Int) (v11 : Int) (X4 : Int × Int → Prop) : Prop :=
  (((decide (v11 < (((g.2.2.2.getD (v8).toNat ((0 : Int), ([] : LI))).2).length : Int))) = true → (inIdx v11 ((g.2.2.2.getD (v8).toNat ((0 : Int), ([] : LI))).2).length ∧ (((decide ((((g.2.2.2.getD (v8).toNat ((0 : Int), ([] : LI))).2).getD (v11).toNat (0 : Int)) < ret23v.1)) = true → (0 ≤ (((g.2.2.2.getD (v8).toNat ((0 : Int), ([] : LI))).2).getD (v11).toNat (0 : Int)) ∧ VC29_k9 g K ret23v atv l32 out X1 sym v8 X3 (bOr .u32 out2 (bShl .u32 (1 : Int) (((g.2.2.2.getD (v8).toNat ((0 : Int), ([] : LI))).2).getD (v11).toNat (0 : Int)))) false)) ∧ ((decide ((((g.2.2.2.getD (v8).toNat ((0 : Int), ([] : LI))).2).getD (v11).toNat (0 : Int)) < ret23v.1)) = false → (InR ((((g.2.2.2.getD (v8).toNat ((0 : Int), ([] : LI))).2).getD (v11).toNat (0 : Int)) - ret23v.1) ∧ inIdx ((((g.2.2.2.getD (v8).toNat ((0 : Int), ([] : LI))).2).getD (v11).toNat (0 : Int)) - ret23v.1) ret23v.2.2.2.2.2.1.length ∧ (InR ((((g.2.2.2.getD (v8).toNat ((0 : Int), ([] : LI))).2).getD (v11).toNat (0 : Int)) - ret23v.1) ∧ VC47 ret23v.2.2.2.2.1 ((((g.2.2.2.getD (v8).toNat ((0 : Int), ([] : LI))).2).getD (v11).toNat (0 : Int)) - ret23v.1) (fun (ret52v : Bool) => (((!ret52v) = true → VC29_k9 g K ret23v atv l32 out X1 sym v8 X3 (bOr .u32 out2 (ret23v.2.2.2.2.2.1.getD ((((((g.2.2.2.getD (v8).toNat ((0 : Int), ([] : LI))).2).getD (v11).toNat (0 : Int)) - ret23v.1)).toNat) (0 : Int))) false) ∧ ((!ret52v) = false → (InR (v11 + (1 : Int)) ∧ X4 ((bOr .u32 out2 (ret23v.2.2.2.2.2.1.getD ((((((g.2.2.2.getD (v8).toNat ((0 : Int), ([] : LI))).2).getD (v11).toNat (0 : Int)) - ret23v.1)).toNat) (0 : Int))), (v11 + (1 : Int))))))))))))) ∧ ((decide (v11 < (((g.2.2.2.getD (v8).toNat ((0 : Int), ([] : LI))).2).length : Int))) = false → VC29_k11 g K ret23v atv l32 out X1 sym v8 X3 out2))

def VC29_l3 (g : (Int × (Int × (Int × (List (Int × LI)))))) (K : LI × Int → Prop) (ret23v : Int × Int × Int × (List (Int × LI)) × Int × LI × LI) (atv : Int) (l32 : LI) (out : LI) (X1 : Int × LI × LI → Prop) (sym : Int) (v8 : Int) (X3 : Int → Prop) : Prop :=
  (((decide (v8 < (g.2.2.2.length : Int))) = true → (inIdx v8 g.2.2.2.length ∧ (InR ((l32.getD ((((l32.length : Int) - (1 : Int))).toNat) (0 : Int)) - g.1) ∧ (((decide ((g.2.2.2.getD (v8).toNat ((0 : Int), ([] : LI))).1 = ((l32.getD ((((l32.length : Int) - (1 : Int))).toNat) (0 : Int)) - g.1))) = true → Loop (σ := Int × Int) (fun s X => VC29_l4 g K ret23v atv l32 out X1 sym v8 X3 s.1 s.2 X) ((0 : Int), (0 : Int))) ∧ ((decide ((g.2.2.2.getD (v8).toNat ((0 : Int), ([] : LI))).1 = ((l32.getD ((((l32.length : Int) - (1 : Int))).toNat) (0 : Int)) - g.1))) = false → gcall (α := Bool) (decide ((g.2.2.2.getD (v8).toNat ((0 : Int), ([] : LI))).1 = ((l32.getD ((((l32.length : Int) - (1 : Int))).toNat) (0 : Int)) - g.1))) (VC47 (0 : Int) sym) false (fun (ret19v : Bool) => VC29_k8 g K atv l32 out X1 v8 X3 ((decide ((g.2.2.2.getD (v8).toNat ((0 : Int), ([] : LI))).1 = ((l32.getD ((((l32.length : Int) - (1 : Int))).toNat) (0 : Int)) - g.1))) && ret19v))))))) ∧ ((decide (v8 < (g.2.2.2.length : Int))) = false → VC29_k7 g K atv l32 out X1))

def VC29_k4 (g : (Int × (Int × (Int × (List (Int × LI)))))) (K : LI × Int → Prop) (ret23v : Int × Int × Int × (List (Int × LI)) × Int × LI × LI) (atv : Int) (l32 : LI) (out : LI) (X1 : Int × LI × LI → Prop) (sym : Int) : Prop :=
  (((decide ((l32.getD ((((l32.length : Int) - (1 : Int))).toNat) (0 : Int)) < g.1)) = true → (((!decide ((l32.getD ((((l32.length : Int) - (1 : Int))).toNat) (0 : Int)) = sym)) = true → K (([] : LI), (5 : Int))) ∧ ((!decide ((l32.getD ((((l32.length : Int) - (1 : Int))).toNat) (0 : Int)) = sym)) = false → (InR (atv + (1 : Int)) ∧ VC29_k3 X1 (atv + (1 : Int)) (l32.take ((((l32.length : Int) - (1 : Int))).toNat)) out)))) ∧ ((decide ((l32.getD ((((l32.length : Int) - (1 : Int))).toNat) (0 : Int)) < g.1)) = false → Loop (σ := Int) (fun s X => VC29_l3 g K ret23v atv l32 out X1 sym s X) (0 : Int)))

def VC29_l1 (g : (Int × (Int × (Int × (List (Int × LI)))))) (w : LI) (K : LI × Int → Prop) (ret23v : Int × Int × Int × (List (Int × LI)) × Int × LI × LI) (atv : Int) (l32 : LI) (out : LI) (X1 : Int × LI × LI → Prop) : Prop :=
  (((decide ((0 : Int) < (l32.length : Int))) = true → (InR ((l32.length : Int) - (1 : Int)) ∧ inIdx ((l32.length : Int) - (1 : Int)) l32.length ∧ (InR ((l32.length : Int) - (1 : Int)) ∧ (0 ≤ ((l32.length : Int) - (1 : Int)) ∧ ((l32.length : Int) - (1 : Int)) ≤ (l32.length : Int)) ∧ (((decide (atv < (w.length : Int))) = true → (inIdx atv w.length ∧ VC29_k4 g K ret23v atv l32 out X1 (w.getD (atv).toNat (0 : Int)))) ∧ ((decide (atv < (w.length : Int))) = false → VC29_k4 g K ret23v atv l32 out X1 g.1))))) ∧ ((decide ((0 : Int) < (l32.length : Int))) = false → VC29_k2 w K atv out))

def VC29_k1 (g : (Int × (Int × (Int × (List (Int × LI)))))) (w : LI) (K : LI × Int → Prop) (ret23v : Int × Int × Int × (List (Int × LI)) × Int × LI × LI) (v2 : Bool) : Prop :=
  (((!v2) = true → K (([] : LI), (3 : Int))) ∧ ((!v2) = false → (InR (g.1 + g.2.2.1) ∧ Loop (σ := Int × LI × LI) (fun s X => VC29_l1 g w K ret23v s.1 s.2.1 s.2.2 X) ((0 : Int), [(g.1 + g.2.2.1)], ([] : List Int)))))

def VC29_k12 (g : (Int × (Int × (Int × (List (Int × LI)))))) (w : LI) (K : LI × Int → Prop) (ret23v : Int × Int × Int × (List (Int × LI)) × Int × LI × LI) : Prop :=
  VC29_k1 g w K ret23v true

def VC29_k14 (g : (Int × (Int × (Int × (List (Int × LI)))))) (w : LI) (K : LI × Int → Prop) (ret23v : Int × Int × Int × (List (Int × LI)) × Int × LI × LI) (v19 : Int) (seen : LI) (X5 : Int × LI → Prop) (out : Int) : Prop :=
  (inIdx ((ret23v.2.2.2.1.getD (v19).toNat ((0 : Int), ([] : LI))).1) seen.length ∧ (((!decide ((bAnd .u32 (seen.getD (((ret23v.2.2.2.1.getD (v19).toNat ((0 : Int), ([] : LI))).1).toNat) (0 : Int)) out) = (0 : Int))) = true → VC29_k1 g w K ret23v false) ∧ ((!decide ((bAnd .u32 (seen.getD (((ret23v.2.2.2.1.getD (v19).toNat ((0 : Int), ([] : LI))).1).toNat) (0 : Int)) out) = (0 : Int))) = false → (inIdx ((ret23v.2.2.2.1.getD (v19).toNat ((0 : Int), ([] : LI))).1) seen.length ∧ inIdx ((ret23v.2.2.2.1.getD (v19).toNat ((0 : Int), ([] : LI))).1) seen.length ∧ (InR (v19 + (1 : Int)) ∧ X5 ((v19 + (1 : Int)), (seen.set (((ret23v.2.2.2.1.getD (v19).toNat ((0 : Int), ([] : LI))).1).toNat) (bOr .u32 (seen.getD (((ret23v.2.2.2.1.getD (v19).toNat ((0 : Int), ([] : LI))).1).toNat) (0 : Int)) out))))))))

def VC29_k13 (g : (Int × (Int × (Int × (List (Int × LI)))))) (w : LI) (K : LI × Int → Prop) (ret23v : Int × Int × Int × (List (Int × LI)) × Int × LI × LI) (v19 : Int) (seen : LI) (X5 : Int × LI → Prop) (v4 : Int) (v5 : Bool) : Prop :=
  ((v5 = true → (inIdx ((ret23v.2.2.2.1.getD (v19).toNat ((0 : Int), ([] : LI))).1) ret23v.2.2.2.2.2.2.length ∧ VC29_k14 g w K ret23v v19 seen X5 (bOr .u32 v4 (ret23v.2.2.2.2.2.2.getD (((ret23v.2.2.2.1.getD (v19).toNat ((0 : Int), ([] : LI))).1).toNat) (0 : Int))))) ∧ (v5 = false → VC29_k14 g w K ret23v v19 seen X5 v4))

def VC29_k15 (g : (Int × (Int × (Int × (List (Int × LI)))))) (w : LI) (K : LI × Int → Prop) (ret23v : Int × Int × Int × (List (Int × LI)) × Int × LI × LI) (v19 : Int) (seen : LI) (X5 : Int × LI → Prop) (out : Int) : Prop :=
  VC29_k13 g w K ret23v v19 seen X5 out true

def VC29_l6 (g : (Int × (Int × (Int × (List (Int × LI)))))) (w : LI) (K : LI × Int → Prop) (ret23v : Int × Int × Int × (List (Int × LI)) × Int × LI × LI) (v19 : Int) (seen : LI) (X5 : Int × LI → Prop) (out : Int) (v11 : Int) (X6 : Int × Int → Prop) : Prop :=
  (((decide (v11 < (((ret23v.2.2.2.1.getD (v19).toNat ((0 : Int), ([] : LI))).2).length : Int))) = true → (inIdx v11 ((ret23v.2.2.2.1.getD (v19).toNat ((0 : Int), ([] : LI))).2).length ∧ (((decide ((((ret23v.2.2.2.1.getD (v19).toNat ((0 : Int), ([] : LI))).2).getD (v11).toNat (0 : Int)) < ret23v.1)) = true → (0 ≤ (((ret23v.2.2.2.1.getD (v19).toNat ((0 : Int), ([] : LI))).2).getD (v11).toNat (0 : Int)) ∧ VC29_k13 g w K ret23v v19 seen X5 (bOr .u32 out (bShl .u32 (1 : Int) (((ret23v.2.2.2.1.getD (v19).toNat ((0 : Int), ([] : LI))).2).getD (v11).toNat (0 : Int)))) false)) ∧ ((decide ((((ret23v.2.2.2.1.getD (v19).toNat ((0 : Int), ([] : LI))).2).getD (v11).toNat (0 : Int)) < ret23v.1)) = false → (InR ((((ret23v.2.2.2.1.getD (v19).toNat ((0 : Int), ([] : LI))).2).getD (v11).toNat (0 : Int)) - ret23v.1) ∧ inIdx ((((ret23v.2.2.2.1.getD (v19).toNat ((0 : Int), ([] : LI))).2).getD (v11).toNat (0 : Int)) - ret23v.1) ret23v.2.2.2.2.2.1.length ∧ (InR ((((ret23v.2.2.2.1.getD (v19).toNat ((0 : Int), ([] : LI))).2).getD (v11).toNat (0 : Int)) - ret23v.1) ∧ VC47 ret23v.2.2.2.2.1 ((((ret23v.2.2.2.1.getD (v19).toNat ((0 : Int), ([] : LI))).2).getD (v11).toNat (0 : Int)) - ret23v.1) (fun (ret52v : Bool) => (((!ret52v) = true → VC29_k13 g w K ret23v v19 seen X5 (bOr .u32 out (ret23v.2.2.2.2.2.1.getD ((((((ret23v.2.2.2.1.getD (v19).toNat ((0 : Int), ([] : LI))).2).getD (v11).toNat (0 : Int)) - ret23v.1)).toNat) (0 : Int))) false) ∧ ((!ret52v) = false → (InR (v11 + (1 : Int)) ∧ X6 ((bOr .u32 out (ret23v.2.2.2.2.2.1.getD ((((((ret23v.2.2.2.1.getD (v19).toNat ((0 : Int), ([] : LI))).2).getD (v11).toNat (0 : Int)) - ret23v.1)).toNat) (0 : Int))), (v11 + (1 : Int))))))))))))) ∧ ((decide (v11 < (((ret23v.2.2.2.1.getD (v19).toNat ((0 : Int), ([] : LI))).2).length : Int))) = false → VC29_k15 g w K ret23v v19 seen X5 out))

def VC29_l5 (g : (Int × (Int × (Int × (List (Int × LI)))))) (w : LI) (K : LI × Int → Prop) (ret23v : Int × Int × Int × (List (Int × LI)) × Int × LI × LI) (v19 : Int) (seen : LI) (X5 : Int × LI → Prop) : Prop :=
  (((decide (v19 < (ret23v.2.2.2.1.length : Int))) = true → (inIdx v19 ret23v.2.2.2.1.length ∧ Loop (σ := Int × Int) (fun s X => VC29_l6 g w K ret23v v19 seen X5 s.1 s.2 X) ((0 : Int), (0 : Int)))) ∧ ((decide (v19 < (ret23v.2.2.2.1.length : Int))) = false → VC29_k12 g w K ret23v))

def VC29 (g : (Int × (Int × (Int × (List (Int × LI)))))) (w : LI) (K : LI × Int → Prop) : Prop :=
  VC44 g w (fun (ret18v : Int) => (((!decide (ret18v = (0 : Int))) = true → K (([] : LI), ret18v)) ∧ ((!decide (ret18v = (0 : Int))) = false → VCo52 g (fun (ret23v : Int × Int × Int × (List (Int × LI)) × Int × LI × LI) => (room ret23v.2.1 ∧ Loop (σ := Int × LI) (fun s X => VC29_l5 g w K ret23v s.1 s.2 X) ((0 : Int), (List.replicate (ret23v.2.1).toNat (0 : Int))))))))

set_option maxHeartbeats 4000000 in
theorem link29 (g : (Int × (Int × (Int × (List (Int × LI)))))) (w : LI) (K : LI × Int → Prop) (h : VC29 g w K) : ACalls Try.prog 29 [toV1 (.pr (.int .i64) (.pr (.int .i64) (.pr (.int .i64) (.sl (.pr (.int .i64) (.sl (.int .i64))))))) g, toV1 (.sl (.int .i64)) w] (fun res => ∃ y, res = (fun y => [toV1 (.sl (.int .i64)) y.1, toV1 (.int .i64) y.2]) y ∧ K y) := by
 refine acalls_of_aw [(.sl (.int .i64)), (.int .i64)] [.t 4, .t 5] Try.func29 rfl rfl rfl ?_
 unfold VC29 at h
 refine sr ?_
 refine rq 3 (ob := (Ts 3 True)) (st' := (⟨94, [e29_38 w, sp 2 2], [e29_24 g]⟩ : St)) (by kernel_rfl) (tsI 3 trivial) ?_
 refine nn ?_
 refine aw_seq ?_
 refine sr ?_
 refine rq 2 (ob := (Ts 2 True)) (st' := (⟨94, [e29_38 w, sp 2 2, sA 16 [.pI g.1, .pI g.2.1, .pI g.2.2.1, .p (.sl (.pr (.int .i64) (.sl (.int .i64)))) g.2.2.2], s1 17 (.pS w)], [e29_24 g]⟩ : St)) (by kernel_rfl) (tsI 2 trivial) ?_
 refine lcq (d := 18) [.d (.pr (.int .i64) (.pr (.int .i64) (.pr (.int .i64) (.sl (.pr (.int .i64) (.sl (.int .i64))))))), .d (.sl (.int .i64))] (fun ret18v => (⟨94, [e29_38 w, sp 2 2, sI 18 ret18v], [e29_24 g]⟩ : St)) (by kernel_rfl) Try.call44 (fun _ => by kernel_rfl) (link44 g w _ h) (fun ret18v h => ?_)
 refine rq 1 (ob := (Ts 1 True)) (st' := (⟨94, [e29_38 w, sp 2 2, sI 6 ret18v], [e29_24 g]⟩ : St)) (by kernel_rfl) (tsI 1 trivial) ?_
 refine nsr ?_
 refine rq 2 (ob := (Ts 2 True)) (st' := (⟨94, [e29_38 w, sp 2 2, sI 6 ret18v, sB 20 (!decide (ret18v = (0 : Int)))], [e29_24 g]⟩ : St)) (by kernel_rfl) (tsI 2 trivial) ?_
 refine nn ?_
 refine aw_cond (b := (!decide (ret18v = (0 : Int)))) (by kernel_rfl) (fun hb => ?_) (fun hb => ?_)
 ·have h := h.1 hb
  refine sr ?_
  refine rq 3 (ob := (Ts 3 True)) (st' := (⟨94, [s1 4 (.nils), sI 5 ret18v], []⟩ : St)) (by kernel_rfl) (tsI 3 trivial) ?_
  refine nn ?_
  refine aw_ret ?_
  refine thenQ_r ?_
  exact retQ_r (ob := Ts 2 True) _ (by kernel_rfl) (tsI 2 trivial) h
 ·have h := h.2 hb
  refine aw_skip ?_
  refine thenQ_n ?_
  refine sr ?_
  refine rq 1 (ob := (Ts 1 True)) (st' := (⟨94, [e29_38 w, sp 2 2, sA 22 [.pI g.1, .pI g.2.1, .pI g.2.2.1, .p (.sl (.pr (.int .i64) (.sl (.int .i64)))) g.2.2.2]], [e29_24 g]⟩ : St)) (by kernel_rfl) (tsI 1 trivial) ?_
  refine awl_lcallo (σ := Int × Int × Int × (List (Int × LI)) × Int × LI × LI) [50000, 50001, 50002] [] [.agg [.pI g.1, .pI g.2.1, .pI g.2.2.1, .p (.sl (.pr (.int .i64) (.sl (.int .i64)))) g.2.2.2]] [] (fun ret23v => .v (.c (.ptr 50000 0))) (fun ret23v => [hB 50000 [.pI ret23v.1, .pI ret23v.2.1, .pI ret23v.2.2.1, .p (.sl (.pr (.int .i64) (.sl (.int .i64)))) ret23v.2.2.2.1, .own 50001, .own 50002, .pW ret23v.2.2.2.2.1], hA 50001 28 (.int .u32) ret23v.2.2.2.2.2.1, hA 50002 28 (.int .u32) ret23v.2.2.2.2.2.2]) _ [] (fun ret23v => (⟨94, [sp 23 50000, e29_38 w, sp 2 2, sA 22 [.pI g.1, .pI g.2.1, .pI g.2.2.1, .p (.sl (.pr (.int .i64) (.sl (.int .i64)))) g.2.2.2]], [e29_0 ret23v, e29_1 ret23v, e29_2 ret23v, e29_24 g]⟩ : St)) rfl rfl (by kernel_rfl) rfl (by kernel_rfl) Try.call52 (by kernel_rfl) (by kernel_rfl) (by kernel_rfl) (fun _ => by kernel_rfl) (fun _ => by kernel_rfl) (linko52 g _ h) (fun ret23v h => ?_)
  refine lpr (st' := (⟨94, [e29_38 w, sp 2 2, sp 23 50000], [e29_24 g, e29_0 ret23v, e29_1 ret23v, e29_2 ret23v]⟩ : St)) (by kernel_rfl) ?_
  refine rq 2 (ob := (Ts 2 True)) (st' := (⟨94, [e29_38 w, sp 2 2, sp 7 7], [e29_24 g, hB 7 [.ptr 50000 0], e29_0 ret23v, e29_1 ret23v, e29_2 ret23v]⟩ : St)) (by kernel_rfl) (tsI 2 trivial) ?_
  refine nn ?_
  refine aw_seq ?_
  refine sr ?_
  refine rq 1 (ob := (Ts 1 True)) (st' := (⟨94, [e29_38 w, sp 2 2, sp 7 7, sp 24 50000], [e29_24 g, hB 7 [.ptr 50000 0], e29_0 ret23v, e29_1 ret23v, e29_2 ret23v]⟩ : St)) (by kernel_rfl) (tsI 1 trivial) ?_
  refine awl_conv [.ren 2 30000, .ren 7 30001] (st' := (⟨94, [e29_38 w, sp 2 30000, e29_50, sp 24 50000], [e29_3 g, e29_7, e29_0 ret23v, e29_1 ret23v, e29_2 ret23v]⟩ : St)) (by kernel_rfl) ?_
  refine awl_inlr [.t 2] [30000, 30001, 50000, 50001, 50002] [.c (.ptr 50000 0)] [] rfl rfl (by kernel_rfl) rfl (by kernel_rfl) Try.call53 (by kernel_rfl) (by kernel_rfl) Try.func53 rfl rfl (by kernel_rfl) ?_
  refine aw_conv [] (st' := (⟨43, [e29_40, e29_62 w, e29_74, e29_75, sp 67 50000], [e29_3 g, e29_7, e29_0 ret23v, e29_1 ret23v, e29_2 ret23v]⟩ : St)) (by kernel_rfl) ?_
  refine withJoinR (σ := Bool) (fun s => (⟨43, [sB 2 s, e29_62 w, e29_74, e29_75], [e29_3 g, e29_7, e29_0 ret23v, e29_1 ret23v, e29_2 ret23v]⟩ : St)) (fun s => VC29_k1 g w K ret23v s) (fun v2 h => ?_) (fun rest11 => ?_)
  ·have h : VC29_k1 g w K ret23v v2 := h
   unfold VC29_k1 at h
   refine inlR_n (ob := True) (.v (.c (.pB v2))) (by kernel_rfl) trivial rfl ?_
   refine lpr (st' := (⟨94, [e29_38 w, sp 2 30000, e29_50, sB 25 v2], [e29_3 g, e29_7, e29_0 ret23v, e29_1 ret23v, e29_2 ret23v]⟩ : St)) (by kernel_rfl) ?_
   refine rq 1 (ob := (Ts 1 True)) (st' := (⟨94, [e29_38 w, sp 2 30000, e29_50, sB 26 (!v2)], [e29_3 g, e29_7, e29_0 ret23v, e29_1 ret23v, e29_2 ret23v]⟩ : St)) (by kernel_rfl) (tsI 1 trivial) ?_
   refine nn ?_
   refine aw_cond (b := (!v2)) (by kernel_rfl) (fun hb => ?_) (fun hb => ?_)
   ·have h := h.1 hb
    refine sr ?_
    refine rq 2 (ob := (Ts 2 True)) (st' := (⟨94, [s1 4 (.nils), sI 5 (3 : Int)], []⟩ : St)) (by kernel_rfl) (tsI 2 trivial) ?_
    refine nn ?_
    refine aw_ret ?_
    refine thenQ_r ?_
    exact retQ_r (ob := Ts 2 True) _ (by kernel_rfl) (tsI 2 trivial) h
   ·have h := h.2 hb
    refine aw_skip ?_
    refine thenQ_n ?_
    refine sr ?_
    refine rq 1 (ob := (Ts 1 True)) (st' := (⟨94, [e29_38 w, sp 2 30000, e29_50, s1 8 (.nils)], [e29_3 g, e29_7, e29_0 ret23v, e29_1 ret23v, e29_2 ret23v]⟩ : St)) (by kernel_rfl) (tsI 1 trivial) ?_
    refine nsr ?_
    obtain ⟨o1, h⟩ := h
    refine rq 8 (ob := (Ts 4 (InR (g.1 + g.2.2.1) ∧ Ts 3 True))) (st' := (⟨94, [e29_38 w, sp 2 30000, e29_50, s1 8 (.nils), sp 9 9], [e29_89, hA 32 3 (.int .i64) [(g.1 + g.2.2.1)], e29_3 g, e29_7, e29_0 ret23v, e29_1 ret23v, e29_2 ret23v]⟩ : St)) (by kernel_rfl) (tsI 4 ⟨o1, tsI 3 trivial⟩) ?_
    refine nsr ?_
    refine rq 1 (ob := (Ts 1 True)) (st' := (⟨94, [e29_38 w, sp 2 30000, e29_50, s1 8 (.nils), sp 9 9, sI 10 (0 : Int)], [e29_89, hA 32 3 (.int .i64) [(g.1 + g.2.2.1)], e29_3 g, e29_7, e29_0 ret23v, e29_1 ret23v, e29_2 ret23v]⟩ : St)) (by kernel_rfl) (tsI 1 trivial) ?_
    refine nn ?_
    refine aw_seq ?_
    refine withJoin (σ := Int × LI) (fun s => (⟨94, [e29_38 w, e29_48, sI 10 s.1], [hA 5008 3 (.int .i64) s.2]⟩ : St)) (fun s => VC29_k2 w K s.1 s.2) (fun s h => ?_) (fun rest1 => ?_)
    ·obtain ⟨atv, out⟩ := s
     have h : VC29_k2 w K atv out := h
     unfold VC29_k2 at h
     refine thenQ_n ?_
     refine aw_seq ?_
     refine sr ?_
     refine rq 4 (ob := (Ts 4 True)) (st' := (⟨94, [e29_48, sB 92 (decide (atv < (w.length : Int)))], [hA 5008 3 (.int .i64) out]⟩ : St)) (by kernel_rfl) (tsI 4 trivial) ?_
     refine nn ?_
     refine aw_cond (b := (decide (atv < (w.length : Int)))) (by kernel_rfl) (fun hb => ?_) (fun hb => ?_)
     ·have h := h.1 hb
      refine sr ?_
      refine rq 2 (ob := (Ts 2 True)) (st' := (⟨94, [s1 4 (.nils), sI 5 (5 : Int)], []⟩ : St)) (by kernel_rfl) (tsI 2 trivial) ?_
      refine nn ?_
      refine aw_ret ?_
      refine thenQ_r ?_
      exact retQ_r (ob := Ts 2 True) _ (by kernel_rfl) (tsI 2 trivial) h
     ·have h := h.2 hb
      refine aw_skip ?_
      refine thenQ_n ?_
      refine sr ?_
      refine rq 3 (ob := (Ts 3 True)) (st' := (⟨94, [s1 4 (.own 5008), sI 5 (0 : Int)], [hA 5008 3 (.int .i64) out]⟩ : St)) (by kernel_rfl) (tsI 3 trivial) ?_
      refine nn ?_
      refine aw_conv [.freeze 5008] (st' := (⟨94, [s1 4 (.pS out), sI 5 (0 : Int)], []⟩ : St)) (by kernel_rfl) ?_
      refine aw_ret ?_
      exact retQ_r (ob := Ts 2 True) _ (by kernel_rfl) (tsI 2 trivial) h
    ·refine aw_block ?_
     refine aw_conv [.freezeB 30000 (.pr (.int .i64) (.pr (.int .i64) (.pr (.int .i64) (.sl (.pr (.int .i64) (.sl (.int .i64))))))), .nilOwn 8 5008 3 (.int .i64), .prune [1, 2, 7, 8, 9, 10] [9, 32, 5008, 30001, 50000, 50001, 50002]] (st' := (⟨94, [e29_38 w, e29_8 g, e29_50, e29_48, sp 9 9, sI 10 (0 : Int)], [e29_89, hA 32 3 (.int .i64) [(g.1 + g.2.2.1)], hA 5008 3 (.int .i64) ([] : List Int), e29_7, e29_0 ret23v, e29_1 ret23v, e29_2 ret23v]⟩ : St)) (by kernel_rfl) ?_
     refine aw_loop (σ := Int × LI × LI) (fun s => (⟨94, [e29_38 w, e29_8 g, e29_50, e29_48, sp 9 9, sI 10 s.1], [e29_89, hA 32 3 (.int .i64) s.2.1, hA 5008 3 (.int .i64) s.2.2, e29_7, e29_0 ret23v, e29_1 ret23v, e29_2 ret23v]⟩ : St)) (fun s X => VC29_l1 g w K ret23v s.1 s.2.1 s.2.2 X) (s0 := ((0 : Int), [(g.1 + g.2.2.1)], ([] : List Int))) (fun s X1 h => ?_) h
     obtain ⟨atv, l32, out⟩ := s
     have h : VC29_l1 g w K ret23v atv l32 out X1 := h
     unfold VC29_l1 at h
     refine aw_seq ?_
     refine sr ?_
     refine rq 3 (ob := (Ts 3 True)) (st' := (⟨94, [e29_38 w, e29_8 g, e29_50, e29_48, sp 9 9, sI 10 atv, sB 35 (decide ((0 : Int) < (l32.length : Int)))], [e29_89, e29_54 l32, hA 5008 3 (.int .i64) out, e29_7, e29_0 ret23v, e29_1 ret23v, e29_2 ret23v]⟩ : St)) (by kernel_rfl) (tsI 3 trivial) ?_
     refine nn ?_
     refine aw_cond (b := (decide ((0 : Int) < (l32.length : Int)))) (by kernel_rfl) (fun hb => ?_) (fun hb => ?_)
     ·have h := h.1 hb
      refine aw_skip ?_
      refine thenQ_n ?_
      refine withJoin (σ := Int × LI × LI) (fun s => (⟨94, [e29_38 w, e29_8 g, e29_50, e29_48, sp 9 9, sI 10 s.1], [e29_89, hA 32 3 (.int .i64) s.2.1, hA 5008 3 (.int .i64) s.2.2, e29_7, e29_0 ret23v, e29_1 ret23v, e29_2 ret23v]⟩ : St)) (fun s => VC29_k3 X1 s.1 s.2.1 s.2.2) (fun s h => ?_) (fun rest2 => ?_)
      ·obtain ⟨atv2, l322, out2⟩ := s
       have h : VC29_k3 X1 atv2 l322 out2 := h
       unfold VC29_k3 at h
       exact thenQ_n ⟨(atv2, l322, out2), rfl, h⟩
      ·refine aw_block ?_
       refine sr ?_
       obtain ⟨o1, o2, h⟩ := h
       refine rq 8 (ob := (Ts 3 (InR ((l32.length : Int) - (1 : Int)) ∧ inIdx ((l32.length : Int) - (1 : Int)) l32.length ∧ Ts 3 True))) (st' := (⟨94, [e29_38 w, e29_8 g, e29_50, e29_48, sp 9 9, sI 10 atv, sp 11 11], [e29_89, e29_35 l32, e29_54 l32, hA 5008 3 (.int .i64) out, e29_7, e29_0 ret23v, e29_1 ret23v, e29_2 ret23v]⟩ : St)) (by kernel_rfl) (tsI 3 (⟨o1, ⟨o2, tsI 3 trivial⟩⟩)) ?_
       refine nsr ?_
       obtain ⟨o1, o2, h⟩ := h
       refine rq 6 (ob := (Ts 3 (InR ((l32.length : Int) - (1 : Int)) ∧ (0 ≤ ((l32.length : Int) - (1 : Int)) ∧ ((l32.length : Int) - (1 : Int)) ≤ (l32.length : Int)) ∧ Ts 1 True))) (st' := (⟨94, [e29_38 w, e29_8 g, e29_50, e29_48, sp 9 9, sI 10 atv, sp 11 11], [e29_31 l32, e29_35 l32, e29_54 l32, hA 5008 3 (.int .i64) out, e29_7, e29_0 ret23v, e29_1 ret23v, e29_2 ret23v]⟩ : St)) (by kernel_rfl) (tsI 3 (⟨o1, ⟨o2, tsI 1 trivial⟩⟩)) ?_
       refine nsr ?_
       refine rq 4 (ob := (Ts 4 True)) (st' := (⟨94, [e29_38 w, e29_8 g, e29_50, e29_48, sp 9 9, sI 10 atv, sp 11 11, sp 12 12], [e29_31 l32, e29_35 l32, hB 12 [.pI g.1], e29_54 l32, hA 5008 3 (.int .i64) out, e29_7, e29_0 ret23v, e29_1 ret23v, e29_2 ret23v]⟩ : St)) (by kernel_rfl) (tsI 4 trivial) ?_
       refine nn ?_
       refine aw_seq ?_
       refine sr ?_
       refine rq 4 (ob := (Ts 4 True)) (st' := (⟨94, [e29_38 w, e29_8 g, e29_50, e29_48, sp 9 9, sI 10 atv, sp 11 11, sp 12 12, sB 52 (decide (atv < (w.length : Int)))], [e29_31 l32, e29_35 l32, hB 12 [.pI g.1], e29_54 l32, hA 5008 3 (.int .i64) out, e29_7, e29_0 ret23v, e29_1 ret23v, e29_2 ret23v]⟩ : St)) (by kernel_rfl) (tsI 4 trivial) ?_
       refine nn ?_
       refine withJoin (σ := Int) (fun s => (⟨94, [e29_38 w, e29_8 g, e29_50, e29_48, sp 9 9, sI 10 atv, sp 11 11, sp 12 12], [e29_31 l32, e29_35 l32, hB 12 [.pI s], e29_54 l32, hA 5008 3 (.int .i64) out, e29_7, e29_0 ret23v, e29_1 ret23v, e29_2 ret23v]⟩ : St)) (fun s => VC29_k4 g K ret23v atv l32 out X1 s) (fun sym h => ?_) (fun rest10 => ?_)
       ·have h : VC29_k4 g K ret23v atv l32 out X1 sym := h
        unfold VC29_k4 at h
        refine thenQ_n ?_
        refine aw_seq ?_
        refine sr ?_
        refine rq 4 (ob := (Ts 4 True)) (st' := (⟨94, [e29_38 w, e29_8 g, e29_50, e29_48, sp 9 9, sI 10 atv, sp 11 11, sp 12 12, sB 60 (decide ((l32.getD ((((l32.length : Int) - (1 : Int))).toNat) (0 : Int)) < g.1))], [e29_31 l32, e29_35 l32, hB 12 [.pI sym], e29_54 l32, hA 5008 3 (.int .i64) out, e29_7, e29_0 ret23v, e29_1 ret23v, e29_2 ret23v]⟩ : St)) (by kernel_rfl) (tsI 4 trivial) ?_
        refine nn ?_
        refine aw_cond (b := (decide ((l32.getD ((((l32.length : Int) - (1 : Int))).toNat) (0 : Int)) < g.1))) (by kernel_rfl) (fun hb => ?_) (fun hb => ?_)
        ·have h := h.1 hb
         refine aw_seq ?_
         refine sr ?_
         refine rq 3 (ob := (Ts 3 True)) (st' := (⟨94, [e29_38 w, e29_8 g, e29_50, e29_48, sp 9 9, sI 10 atv, sB 63 (!decide ((l32.getD ((((l32.length : Int) - (1 : Int))).toNat) (0 : Int)) = sym))], [e29_31 l32, e29_54 l32, hA 5008 3 (.int .i64) out, e29_7, e29_0 ret23v, e29_1 ret23v, e29_2 ret23v]⟩ : St)) (by kernel_rfl) (tsI 3 trivial) ?_
         refine nn ?_
         refine aw_cond (b := (!decide ((l32.getD ((((l32.length : Int) - (1 : Int))).toNat) (0 : Int)) = sym))) (by kernel_rfl) (fun hb => ?_) (fun hb => ?_)
         ·have h := h.1 hb
          refine sr ?_
          refine rq 2 (ob := (Ts 2 True)) (st' := (⟨94, [s1 4 (.nils), sI 5 (5 : Int)], []⟩ : St)) (by kernel_rfl) (tsI 2 trivial) ?_
          refine nn ?_
          refine aw_ret ?_
          refine thenQ_r ?_
          refine thenQ_r ?_
          refine blockQ_r ?_
          refine thenQ_r ?_
          refine blockQ_r ?_
          refine thenQ_r ?_
          exact retQ_r (ob := Ts 2 True) _ (by kernel_rfl) (tsI 2 trivial) h
         ·have h := h.2 hb
          refine aw_skip ?_
          refine thenQ_n ?_
          refine sr ?_
          obtain ⟨o1, h⟩ := h
          refine rq 3 (ob := (Ts 1 (InR (atv + (1 : Int)) ∧ Ts 1 True))) (st' := (⟨94, [e29_38 w, e29_8 g, e29_50, e29_48, sp 9 9, sI 10 (atv + (1 : Int))], [e29_31 l32, e29_54 l32, hA 5008 3 (.int .i64) out, e29_7, e29_0 ret23v, e29_1 ret23v, e29_2 ret23v]⟩ : St)) (by kernel_rfl) (tsI 1 ⟨o1, tsI 1 trivial⟩) ?_
          refine nn ?_
          refine aw_conv [.cutB 9 0, .prune [1, 2, 7, 8, 9, 10] [9, 32, 5008, 30001, 50000, 50001, 50002]] (st' := (⟨94, [e29_38 w, e29_8 g, e29_50, e29_48, sp 9 9, sI 10 (atv + (1 : Int))], [e29_89, hA 32 3 (.int .i64) (l32.take ((((l32.length : Int) - (1 : Int))).toNat)), hA 5008 3 (.int .i64) out, e29_7, e29_0 ret23v, e29_1 ret23v, e29_2 ret23v]⟩ : St)) (by kernel_rfl) ?_
          refine aw_exit ?_
          refine thenQ_x ?_
          refine blockQ_hit ?_
          exact rest2 ((atv + (1 : Int)), (l32.take ((((l32.length : Int) - (1 : Int))).toNat)), out) h
        ·have h := h.2 hb
         refine aw_skip ?_
         refine thenQ_n ?_
         refine sr ?_
         refine rq 2 (ob := (Ts 2 True)) (st' := (⟨94, [e29_38 w, e29_8 g, e29_50, e29_48, sp 9 9, sI 10 atv, sp 11 11, sp 12 12, e29_67 g], [e29_31 l32, e29_35 l32, hB 12 [.pI sym], e29_54 l32, hA 5008 3 (.int .i64) out, e29_7, e29_0 ret23v, e29_1 ret23v, e29_2 ret23v]⟩ : St)) (by kernel_rfl) (tsI 2 trivial) ?_
         refine awl_conv [.freezeB 11 (.int .i64), .freezeB 12 (.int .i64)] (st' := (⟨94, [e29_38 w, e29_8 g, e29_50, e29_48, sp 9 9, sI 10 atv, s1 11 (.ad (.int .i64) (l32.getD ((((l32.length : Int) - (1 : Int))).toNat) (0 : Int))), s1 12 (.ad (.int .i64) sym), e29_67 g], [e29_31 l32, e29_54 l32, hA 5008 3 (.int .i64) out, e29_7, e29_0 ret23v, e29_1 ret23v, e29_2 ret23v]⟩ : St)) (by kernel_rfl) ?_
         refine rq 1 (ob := (Ts 1 True)) (st' := (⟨94, [e29_38 w, e29_8 g, e29_50, e29_48, sp 9 9, sI 10 atv, e29_67 g, e29_42 l32 g sym], [e29_31 l32, e29_54 l32, hA 5008 3 (.int .i64) out, e29_7, e29_0 ret23v, e29_1 ret23v, e29_2 ret23v]⟩ : St)) (by kernel_rfl) (tsI 1 trivial) ?_
         refine awl_conv [.ren 9 30200, .ren 32 30201, .ren 5008 30202] (st' := (⟨94, [e29_38 w, e29_8 g, e29_50, s1 8 (.own 30202), sp 9 30200, sI 10 atv, e29_67 g, e29_42 l32 g sym], [e29_6 l32, e29_17 l32, hA 30202 3 (.int .i64) out, e29_7, e29_0 ret23v, e29_1 ret23v, e29_2 ret23v]⟩ : St)) (by kernel_rfl) ?_
         refine awl_inlr [.t 4] [30200, 30201, 30202, 30001, 50000, 50001, 50002] [.c (.p (.sl (.pr (.int .i64) (.sl (.int .i64)))) g.2.2.2), .c (.cl 56 [.ad ⟨(.int .i64), (l32.getD ((((l32.length : Int) - (1 : Int))).toNat) (0 : Int))⟩, .ad ⟨(.pr (.int .i64) (.pr (.int .i64) (.pr (.int .i64) (.sl (.pr (.int .i64) (.sl (.int .i64))))))), g⟩, .pt 30001 0, .ad ⟨(.int .i64), sym⟩])] [] rfl rfl (by kernel_rfl) rfl (by kernel_rfl) Try.call55 (by kernel_rfl) (by kernel_rfl) Try.func55 rfl rfl (by kernel_rfl) ?_
         refine aw_conv [] (st' := (⟨19, [e29_41 g, e29_15 l32 g sym, e29_51 w, e29_12 g, e29_57, e29_65, e29_58, sI 29 atv, s1 86 (.p (.sl (.pr (.int .i64) (.sl (.int .i64)))) g.2.2.2), s1 87 (.cl 56 [.ad ⟨(.int .i64), (l32.getD ((((l32.length : Int) - (1 : Int))).toNat) (0 : Int))⟩, .ad ⟨(.pr (.int .i64) (.pr (.int .i64) (.pr (.int .i64) (.sl (.pr (.int .i64) (.sl (.int .i64))))))), g⟩, .pt 30001 0, .ad ⟨(.int .i64), sym⟩])], [e29_6 l32, e29_17 l32, hA 30202 3 (.int .i64) out, e29_7, e29_0 ret23v, e29_1 ret23v, e29_2 ret23v]⟩ : St)) (by kernel_rfl) ?_
         refine withJoinR (σ := Int) (fun s => (⟨19, [sI 4 s, e29_51 w, e29_12 g, e29_57, e29_65, e29_58, sI 29 atv], [e29_7, e29_6 l32, e29_17 l32, hA 30202 3 (.int .i64) out, e29_0 ret23v, e29_1 ret23v, e29_2 ret23v]⟩ : St)) (fun s => VC29_k5 g K atv l32 out X1 s) (fun v4 h => ?_) (fun rest4 => ?_)
         ·have h : VC29_k5 g K atv l32 out X1 v4 := h
          unfold VC29_k5 at h
          refine inlR_n (ob := True) (.v (.c (.pI v4))) (by kernel_rfl) trivial rfl ?_
          refine lpr (st' := (⟨94, [e29_38 w, e29_8 g, e29_50, s1 8 (.own 30202), sp 9 30200, sI 10 atv, sI 69 v4], [e29_7, e29_6 l32, e29_17 l32, hA 30202 3 (.int .i64) out, e29_0 ret23v, e29_1 ret23v, e29_2 ret23v]⟩ : St)) (by kernel_rfl) ?_
          refine rq 1 (ob := (Ts 1 True)) (st' := (⟨94, [e29_38 w, e29_8 g, e29_50, s1 8 (.own 30202), sp 9 30200, sI 10 atv, sI 13 v4], [e29_7, e29_6 l32, e29_17 l32, hA 30202 3 (.int .i64) out, e29_0 ret23v, e29_1 ret23v, e29_2 ret23v]⟩ : St)) (by kernel_rfl) (tsI 1 trivial) ?_
          refine nn ?_
          refine aw_seq ?_
          refine sr ?_
          refine rq 2 (ob := (Ts 2 True)) (st' := (⟨94, [e29_38 w, e29_8 g, e29_50, s1 8 (.own 30202), sp 9 30200, sI 10 atv, sI 13 v4, sB 71 (decide (v4 < (0 : Int)))], [e29_7, e29_6 l32, e29_17 l32, hA 30202 3 (.int .i64) out, e29_0 ret23v, e29_1 ret23v, e29_2 ret23v]⟩ : St)) (by kernel_rfl) (tsI 2 trivial) ?_
          refine nn ?_
          refine aw_cond (b := (decide (v4 < (0 : Int)))) (by kernel_rfl) (fun hb => ?_) (fun hb => ?_)
          ·have h := h.1 hb
           refine sr ?_
           refine rq 2 (ob := (Ts 2 True)) (st' := (⟨94, [s1 4 (.nils), sI 5 (5 : Int)], []⟩ : St)) (by kernel_rfl) (tsI 2 trivial) ?_
           refine nn ?_
           refine aw_ret ?_
           refine thenQ_r ?_
           refine blockQ_r ?_
           refine thenQ_r ?_
           refine blockQ_r ?_
           refine thenQ_r ?_
           exact retQ_r (ob := Ts 2 True) _ (by kernel_rfl) (tsI 2 trivial) h
          ·have h := h.2 hb
           refine aw_skip ?_
           refine thenQ_n ?_
           refine sr ?_
           obtain ⟨o1, h⟩ := h
           refine rq 5 (ob := (Ts 3 (roomN (out.length + [v4].length) ∧ Ts 1 True))) (st' := (⟨94, [e29_38 w, e29_8 g, e29_50, s1 8 (.own 75), sp 9 30200, sI 10 atv, sI 13 v4], [hA 75 3 (.int .i64) (out ++ [v4]), e29_7, e29_6 l32, e29_17 l32, e29_0 ret23v, e29_1 ret23v, e29_2 ret23v]⟩ : St)) (by kernel_rfl) (tsI 3 ⟨o1, tsI 1 trivial⟩) ?_
           refine nsr ?_
           obtain ⟨o1, h⟩ := h
           refine rq 6 (ob := (Ts 3 (inIdx v4 g.2.2.2.length ∧ Ts 2 True))) (st' := (⟨94, [e29_38 w, e29_8 g, e29_50, s1 8 (.own 75), sp 9 30200, sI 10 atv, s1 81 (.pS ((g.2.2.2.getD (v4).toNat ((0 : Int), ([] : LI))).2))], [hA 75 3 (.int .i64) (out ++ [v4]), e29_7, e29_6 l32, e29_17 l32, e29_0 ret23v, e29_1 ret23v, e29_2 ret23v]⟩ : St)) (by kernel_rfl) (tsI 3 ⟨o1, tsI 2 trivial⟩) ?_
           refine awl_conv [.ren 75 30400] (st' := (⟨94, [e29_38 w, e29_8 g, e29_50, s1 8 (.own 30400), sp 9 30200, sI 10 atv, s1 81 (.pS ((g.2.2.2.getD (v4).toNat ((0 : Int), ([] : LI))).2))], [hA 30400 3 (.int .i64) (out ++ [v4]), e29_7, e29_6 l32, e29_17 l32, e29_0 ret23v, e29_1 ret23v, e29_2 ret23v]⟩ : St)) (by kernel_rfl) ?_
           refine awl_inlr [.t 2] [30400, 30001, 30200, 30201, 50000, 50001, 50002] [.c (.pS ((g.2.2.2.getD (v4).toNat ((0 : Int), ([] : LI))).2))] [] rfl rfl (by kernel_rfl) rfl (by kernel_rfl) Try.call58 (by kernel_rfl) (by kernel_rfl) Try.func58 rfl rfl (by kernel_rfl) ?_
           refine aw_conv [] (st' := (⟨4, [s1 0 (.pS ((g.2.2.2.getD (v4).toNat ((0 : Int), ([] : LI))).2)), s1 5 (.pS w), e29_43 g, sp 11 30001, s1 12 (.own 30400), sp 13 30200, sI 14 atv, s1 85 (.pS ((g.2.2.2.getD (v4).toNat ((0 : Int), ([] : LI))).2))], [hA 30400 3 (.int .i64) (out ++ [v4]), e29_7, e29_6 l32, e29_17 l32, e29_0 ret23v, e29_1 ret23v, e29_2 ret23v]⟩ : St)) (by kernel_rfl) ?_
           refine sr ?_
           refine rq 2 (ob := (Ts 2 True)) (st' := (⟨4, [sp 1 1, s1 5 (.pS w), e29_43 g, sp 11 30001, s1 12 (.own 30400), sp 13 30200, sI 14 atv], [hB 1 [.pS ((g.2.2.2.getD (v4).toNat ((0 : Int), ([] : LI))).2)], e29_7, e29_6 l32, e29_17 l32, hA 30400 3 (.int .i64) (out ++ [v4]), e29_0 ret23v, e29_1 ret23v, e29_2 ret23v]⟩ : St)) (by kernel_rfl) (tsI 2 trivial) ?_
           refine nsr ?_
           refine awl_conv [.freezeB 1 (.sl (.int .i64))] (st' := (⟨4, [e29_25 g v4, s1 5 (.pS w), e29_43 g, sp 11 30001, s1 12 (.own 30400), sp 13 30200, sI 14 atv], [e29_7, e29_6 l32, e29_17 l32, hA 30400 3 (.int .i64) (out ++ [v4]), e29_0 ret23v, e29_1 ret23v, e29_2 ret23v]⟩ : St)) (by kernel_rfl) ?_
           refine rq 2 (ob := (Ts 2 True)) (st' := (⟨4, [s1 2 (.fn 87 [(⟨(.sl (.int .i64)), (g.2.2.2.getD (v4).toNat ((0 : Int), ([] : LI))).2⟩ : Dat)]), s1 5 (.pS w), e29_43 g, sp 11 30001, s1 12 (.own 30400), sp 13 30200, sI 14 atv], [e29_7, e29_6 l32, e29_17 l32, hA 30400 3 (.int .i64) (out ++ [v4]), e29_0 ret23v, e29_1 ret23v, e29_2 ret23v]⟩ : St)) (by kernel_rfl) (tsI 2 trivial) ?_
           refine nn ?_
           refine aw_ret ?_
           refine inlR_r (ob := True) (.v (.c (.fn 87 [(⟨(.sl (.int .i64)), (g.2.2.2.getD (v4).toNat ((0 : Int), ([] : LI))).2⟩ : Dat)]))) (by kernel_rfl) trivial rfl ?_
           refine lpr (st' := (⟨94, [e29_38 w, e29_8 g, e29_50, s1 8 (.own 30400), sp 9 30200, sI 10 atv, s1 82 (.fn 87 [(⟨(.sl (.int .i64)), (g.2.2.2.getD (v4).toNat ((0 : Int), ([] : LI))).2⟩ : Dat)])], [e29_7, e29_6 l32, e29_17 l32, hA 30400 3 (.int .i64) (out ++ [v4]), e29_0 ret23v, e29_1 ret23v, e29_2 ret23v]⟩ : St)) (by kernel_rfl) ?_
           refine nn ?_
           refine aw_block ?_
           refine aw_conv [.cutB 30200 0] (st' := (⟨94, [e29_38 w, e29_8 g, e29_50, s1 8 (.own 30400), sp 9 30200, sI 10 atv, s1 82 (.fn 87 [(⟨(.sl (.int .i64)), (g.2.2.2.getD (v4).toNat ((0 : Int), ([] : LI))).2⟩ : Dat)])], [e29_69 l32, e29_7, e29_52, hA 30400 3 (.int .i64) (out ++ [v4]), e29_0 ret23v, e29_1 ret23v, e29_2 ret23v]⟩ : St)) (by kernel_rfl) ?_
           refine aw_cq ?_
           refine aw_rangeFunc 37000 90000 [9] [37000, 30201, 30001, 30200, 30400, 50000, 50001, 50002] [.c (.ad (.sl (.int .i64)) ((g.2.2.2.getD (v4).toNat ((0 : Int), ([] : LI))).2))] (by kernel_rfl) Try.call87 Try.func87 rfl rfl (by kernel_rfl) (fun _ => by kernel_rfl) (fun lr1 hps has hbd hnn => ?_)
           have hY1 : ∀ (a83 : Int) (a84 : Int) (c0 : LI) (Kt : LI → Prop) (Kf : (Int × LI) → Prop) (h : VC29_y1 a83 a84 c0 Kt Kf), LYCalls Try.prog 37000 [37000, 30201, 30200] [37000, 30200] [(37000, [], .lp lr1 (0 : Int) (VC29_s1 30200)), hA 30201 3 (.int .i64) c0, hB 30200 [.own 30201]] [.c (.pI a83), .c (.pI a84)] (fun av hp' => (∃ y : LI, av = .v (.c (.p .bool true)) ∧ hp' = [(37000, [], .lp lr1 (0 : Int) (VC29_s1 30200)), hA 30201 3 (.int .i64) y, hB 30200 [.own 30201]] ∧ Kt y) ∨ (∃ y : Int × LI, av = .v (.c (.p .bool false)) ∧ hp' = [(37000, [], .lp lr1 y.1 (VC29_s1 30200)), hA 30201 3 (.int .i64) y.2, hB 30200 [.own 30201]] ∧ Kf y)) := by
            intro a83 a84 c0 Kt Kf h
            refine lyield_of_aw (sl := VC29_s1 30200) (hp1 := [hA 30201 3 (.int .i64) c0, hB 30200 [.own 30201]]) [37000, 30201, 30200] [37000, 30200] [30201, 30200] [30200] hps has hbd hnn (by kernel_rfl) (by kernel_rfl) (by decide) (by kernel_rfl) (by kernel_rfl) (by kernel_rfl) (by kernel_rfl) ?_
            refine aw_conv [] (st' := (⟨94, [sI 83 a83, sI 84 a84, sp 9 30200, sp 94 30200], [hA 30201 3 (.int .i64) c0, e29_52]⟩ : St)) (by kernel_rfl) ?_
            unfold VC29_y1 at h
            refine aw_region ?_
            refine rq 1 (ob := (Ts 1 True)) (st' := (⟨94, [sp 9 30200, sI 15 a84, sp 94 30200], [e29_52, hA 30201 3 (.int .i64) c0]⟩ : St)) (by kernel_rfl) (tsI 1 trivial) ?_
            refine awl_nil ?_
            refine asgQ_n ?_
            refine aw_block ?_
            refine aw_region ?_
            obtain ⟨o1, h⟩ := h
            refine rq 5 (ob := (Ts 3 (roomN (c0.length + [a84].length) ∧ Ts 1 True))) (st' := (⟨94, [sp 94 30200], [hA 88 3 (.int .i64) (c0 ++ [a84]), hB 30200 [.own 88]]⟩ : St)) (by kernel_rfl) (tsI 3 ⟨o1, tsI 1 trivial⟩) ?_
            refine awl_conv [.ren 88 30201] (st' := (⟨94, [sp 94 30200], [hA 30201 3 (.int .i64) (c0 ++ [a84]), e29_52]⟩ : St)) (by kernel_rfl) ?_
            refine awl_nil ?_
            refine blockQ_n ?_
            exact yret_n (c0 ++ [a84]) (by kernel_rfl) (by kernel_rfl) h
           refine aw_conv [] (st' := (⟨19, [e29_85, e29_25 g v4, e29_68, e29_51 w, e29_12 g, e29_57, e29_76, e29_58, sI 29 atv, s1 101 (.fn 87 [(⟨(.sl (.int .i64)), (g.2.2.2.getD (v4).toNat ((0 : Int), ([] : LI))).2⟩ : Dat)])], [(37000, [], .lp lr1 (0 : Int) (VC29_s1 30200)), e29_69 l32, e29_7, e29_52, hA 30400 3 (.int .i64) (out ++ [v4]), e29_0 ret23v, e29_1 ret23v, e29_2 ret23v]⟩ : St)) (by kernel_rfl) ?_
           refine sr ?_
           obtain ⟨o1, h⟩ := h
           refine rq 4 (ob := (Ts 2 (InR ((((g.2.2.2.getD (v4).toNat ((0 : Int), ([] : LI))).2).length : Int) - (1 : Int)) ∧ Ts 1 True))) (st' := (⟨19, [e29_85, e29_25 g v4, sI 3 ((((g.2.2.2.getD (v4).toNat ((0 : Int), ([] : LI))).2).length : Int) - (1 : Int)), e29_51 w, e29_12 g, e29_57, e29_76, e29_58, sI 29 atv, e29_68], [e29_7, e29_52, e29_69 l32, hA 30400 3 (.int .i64) (out ++ [v4]), (37000, [], .lp lr1 (0 : Int) (VC29_s1 30200)), e29_0 ret23v, e29_1 ret23v, e29_2 ret23v]⟩ : St)) (by kernel_rfl) (tsI 2 ⟨o1, tsI 1 trivial⟩) ?_
           refine nn ?_
           refine withJoin (σ := LI) (fun s => (⟨19, [e29_51 w, e29_12 g, e29_57, e29_76, e29_58, sI 29 atv, e29_68], [e29_7, e29_52, hA 30201 3 (.int .i64) s, hA 30400 3 (.int .i64) (out ++ [v4]), (37000, [], .lp lr1 (0 : Int) (VC29_s1 30200)), e29_0 ret23v, e29_1 ret23v, e29_2 ret23v]⟩ : St)) (fun s => VC29_k6 atv out X1 v4 s) (fun l30201 h => ?_) (fun rest3 => ?_)
           ·have h : VC29_k6 atv out X1 v4 l30201 := h
            unfold VC29_k6 at h
            refine rfQ_n (0 : Int) (VC29_s1 30200) rfl (by kernel_rfl) (by kernel_rfl) ⟨fun _ => ?_, fun h0 => absurd rfl h0, fun h0 => absurd rfl h0⟩
            refine cq [.ren 30400 50400, .ren 30200 50200, .ren 30201 50201, .ren 50400 5008, .ren 50200 9, .ren 50201 32, .prune [1, 2, 7, 8, 9, 10] [9, 32, 5008, 30001, 50000, 50001, 50002]] (s' := (⟨94, [e29_38 w, e29_8 g, e29_50, e29_48, sp 9 9, sI 10 atv], [e29_89, hA 32 3 (.int .i64) l30201, hA 5008 3 (.int .i64) (out ++ [v4]), e29_7, e29_0 ret23v, e29_1 ret23v, e29_2 ret23v]⟩ : St)) (by kernel_rfl) ?_
            refine blockQ_n ?_
            refine blockQ_n ?_
            exact rest2 (atv, l30201, (out ++ [v4])) h
           ·refine aw_block ?_
            refine aw_loop (σ := Int × LI) (fun s => (⟨19, [e29_85, e29_25 g v4, sI 3 s.1, e29_51 w, e29_12 g, e29_57, e29_76, e29_58, sI 29 atv, e29_68], [e29_7, e29_52, hA 30201 3 (.int .i64) s.2, hA 30400 3 (.int .i64) (out ++ [v4]), (37000, [], .lp lr1 (0 : Int) (VC29_s1 30200)), e29_0 ret23v, e29_1 ret23v, e29_2 ret23v]⟩ : St)) (fun s X => VC29_l2 g atv out X1 v4 s.1 s.2 X) (s0 := (((((g.2.2.2.getD (v4).toNat ((0 : Int), ([] : LI))).2).length : Int) - (1 : Int)), (l32.take ((((l32.length : Int) - (1 : Int))).toNat)))) (fun s X2 h => ?_) h
            obtain ⟨i, l30201⟩ := s
            have h : VC29_l2 g atv out X1 v4 i l30201 X2 := h
            unfold VC29_l2 at h
            refine aw_seq ?_
            refine sr ?_
            refine rq 2 (ob := (Ts 2 True)) (st' := (⟨19, [e29_85, e29_25 g v4, sI 3 i, sB 8 (decide ((0 : Int) ≤ i)), e29_51 w, e29_12 g, e29_57, e29_76, e29_58, sI 29 atv, e29_68], [e29_7, e29_52, hA 30201 3 (.int .i64) l30201, hA 30400 3 (.int .i64) (out ++ [v4]), (37000, [], .lp lr1 (0 : Int) (VC29_s1 30200)), e29_0 ret23v, e29_1 ret23v, e29_2 ret23v]⟩ : St)) (by kernel_rfl) (tsI 2 trivial) ?_
            refine nn ?_
            refine aw_cond (b := (decide ((0 : Int) ≤ i))) (by kernel_rfl) (fun hb => ?_) (fun hb => ?_)
            ·have h := h.1 hb
             refine aw_skip ?_
             refine thenQ_n ?_
             refine aw_seq ?_
             refine aw_block ?_
             refine sr ?_
             obtain ⟨o1, h⟩ := h
             refine rq 6 (ob := (Ts 4 (inIdx i ((g.2.2.2.getD (v4).toNat ((0 : Int), ([] : LI))).2).length ∧ Ts 1 True))) (st' := (⟨19, [e29_85, e29_25 g v4, sI 3 i, s1 11 (.yv 37000), sI 12 i, sI 16 (((g.2.2.2.getD (v4).toNat ((0 : Int), ([] : LI))).2).getD (i).toNat (0 : Int)), e29_51 w, e29_12 g, e29_57, e29_76, e29_58, sI 29 atv, e29_68], [e29_7, e29_52, hA 30201 3 (.int .i64) l30201, hA 30400 3 (.int .i64) (out ++ [v4]), (37000, [], .lp lr1 (0 : Int) (VC29_s1 30200)), e29_0 ret23v, e29_1 ret23v, e29_2 ret23v]⟩ : St)) (by kernel_rfl) (tsI 4 ⟨o1, tsI 1 trivial⟩) ?_
             refine ycq (d := 17) [37000, 30201, 30200] (fun yt17v => (⟨19, [e29_85, e29_25 g v4, sI 3 i, sB 17 true, e29_51 w, e29_12 g, e29_57, e29_76, e29_58, sI 29 atv, e29_68], [e29_7, e29_52, hA 30201 3 (.int .i64) yt17v, hA 30400 3 (.int .i64) (out ++ [v4]), (37000, [], .lp lr1 (0 : Int) (VC29_s1 30200)), e29_0 ret23v, e29_1 ret23v, e29_2 ret23v]⟩ : St)) (fun yf17 => (⟨19, [e29_85, e29_25 g v4, sI 3 i, sB 17 false, e29_51 w, e29_12 g, e29_57, e29_76, e29_58, sI 29 atv, e29_68], [e29_7, e29_52, hA 30201 3 (.int .i64) yf17.2, hA 30400 3 (.int .i64) (out ++ [v4]), (37000, [], .lp lr1 yf17.1 (VC29_s1 30200)), e29_0 ret23v, e29_1 ret23v, e29_2 ret23v]⟩ : St)) (by kernel_rfl) (fun _ => by kernel_rfl) (fun _ => by kernel_rfl) (hY1 i (((g.2.2.2.getD (v4).toNat ((0 : Int), ([] : LI))).2).getD (i).toNat (0 : Int)) l30201 _ _ h) (fun yt17v h => ?_) (fun yf17 h => ?_)
             ·refine rq 1 (ob := (Ts 1 True)) (st' := (⟨19, [e29_85, e29_25 g v4, sI 3 i, sB 18 (!true), e29_51 w, e29_12 g, e29_57, e29_76, e29_58, sI 29 atv, e29_68], [e29_7, e29_52, hA 30201 3 (.int .i64) yt17v, hA 30400 3 (.int .i64) (out ++ [v4]), (37000, [], .lp lr1 (0 : Int) (VC29_s1 30200)), e29_0 ret23v, e29_1 ret23v, e29_2 ret23v]⟩ : St)) (by kernel_rfl) (tsI 1 trivial) ?_
              refine nn ?_
              refine aw_cond (b := (!true)) (by kernel_rfl) (fun hb => by cases hb) (fun _ => ?_)
              refine aw_skip ?_
              refine blockQ_n ?_
              refine thenQ_n ?_
              refine aw_region ?_
              obtain ⟨o1, h⟩ := h
              refine rq 3 (ob := (Ts 1 (InR (i - (1 : Int)) ∧ Ts 1 True))) (st' := (⟨19, [e29_85, e29_25 g v4, sI 3 (i - (1 : Int)), e29_51 w, e29_12 g, e29_57, e29_76, e29_58, sI 29 atv, e29_68], [e29_7, e29_52, hA 30201 3 (.int .i64) yt17v, hA 30400 3 (.int .i64) (out ++ [v4]), (37000, [], .lp lr1 (0 : Int) (VC29_s1 30200)), e29_0 ret23v, e29_1 ret23v, e29_2 ret23v]⟩ : St)) (by kernel_rfl) (tsI 1 ⟨o1, tsI 1 trivial⟩) ?_
              refine awl_nil ?_
              exact thenQ_n ⟨((i - (1 : Int)), yt17v), rfl, h⟩
             ·refine rq 1 (ob := (Ts 1 True)) (st' := (⟨19, [e29_85, e29_25 g v4, sI 3 i, sB 18 (!false), e29_51 w, e29_12 g, e29_57, e29_76, e29_58, sI 29 atv, e29_68], [e29_7, e29_52, hA 30201 3 (.int .i64) yf17.2, hA 30400 3 (.int .i64) (out ++ [v4]), (37000, [], .lp lr1 yf17.1 (VC29_s1 30200)), e29_0 ret23v, e29_1 ret23v, e29_2 ret23v]⟩ : St)) (by kernel_rfl) (tsI 1 trivial) ?_
              refine nn ?_
              refine aw_cond (b := (!false)) (by kernel_rfl) (fun _ => ?_) (fun hb => by cases hb)
              refine aw_ret ?_
              refine blockQ_r ?_
              refine thenQ_r ?_
              refine thenQ_r ?_
              refine blockQ_r ?_
              exact h.elim
            ·have h := h.2 hb
             refine cpr (st' := (⟨19, [e29_51 w, e29_12 g, e29_57, e29_76, e29_58, sI 29 atv, e29_68], [e29_7, e29_52, hA 30201 3 (.int .i64) l30201, hA 30400 3 (.int .i64) (out ++ [v4]), (37000, [], .lp lr1 (0 : Int) (VC29_s1 30200)), e29_0 ret23v, e29_1 ret23v, e29_2 ret23v]⟩ : St)) (by kernel_rfl) ?_
             refine aw_exit ?_
             refine thenQ_x ?_
             refine thenQ_x ?_
             refine blockQ_hit ?_
             exact rest3 l30201 h
         ·refine sr ?_
          refine rq 1 (ob := (Ts 1 True)) (st' := (⟨19, [e29_41 g, e29_15 l32 g sym, e29_51 w, e29_12 g, e29_57, e29_65, e29_58, sI 29 atv], [e29_7, e29_6 l32, e29_17 l32, hA 30202 3 (.int .i64) out, e29_0 ret23v, e29_1 ret23v, e29_2 ret23v]⟩ : St)) (by kernel_rfl) (tsI 1 trivial) ?_
          refine nn ?_
          refine aw_seq ?_
          refine sr ?_
          refine rq 3 (ob := (Ts 3 True)) (st' := (⟨19, [e29_41 g, e29_15 l32 g sym, e29_84 g, sI 8 (0 : Int), e29_51 w, e29_12 g, e29_57, e29_65, e29_58, sI 29 atv], [e29_7, e29_6 l32, e29_17 l32, hA 30202 3 (.int .i64) out, e29_0 ret23v, e29_1 ret23v, e29_2 ret23v]⟩ : St)) (by kernel_rfl) (tsI 3 trivial) ?_
          refine nn ?_
          refine withJoin (σ := Unit) (fun s => (⟨19, [e29_51 w, e29_12 g, e29_57, e29_65, e29_58, sI 29 atv], [e29_7, e29_6 l32, e29_17 l32, hA 30202 3 (.int .i64) out, e29_0 ret23v, e29_1 ret23v, e29_2 ret23v]⟩ : St)) (fun s => VC29_k7 g K atv l32 out X1) (fun s h => ?_) (fun rest5 => ?_)
          ·have h : VC29_k7 g K atv l32 out X1 := h
           unfold VC29_k7 at h
           refine thenQ_n ?_
           refine sr ?_
           refine rq 1 (ob := (Ts 1 True)) (st' := (⟨19, [sI 4 (-1 : Int), e29_51 w, e29_12 g, e29_57, e29_65, e29_58, sI 29 atv], [e29_7, e29_6 l32, e29_17 l32, hA 30202 3 (.int .i64) out, e29_0 ret23v, e29_1 ret23v, e29_2 ret23v]⟩ : St)) (by kernel_rfl) (tsI 1 trivial) ?_
           refine nn ?_
           refine aw_ret ?_
           exact rest4 (-1 : Int) h
          ·refine aw_block ?_
           refine aw_loop (σ := Int) (fun s => (⟨19, [e29_41 g, e29_15 l32 g sym, e29_84 g, sI 8 s, e29_51 w, e29_12 g, e29_57, e29_65, e29_58, sI 29 atv], [e29_7, e29_6 l32, e29_17 l32, hA 30202 3 (.int .i64) out, e29_0 ret23v, e29_1 ret23v, e29_2 ret23v]⟩ : St)) (fun s X => VC29_l3 g K ret23v atv l32 out X1 sym s X) (s0 := (0 : Int)) (fun v8 X3 h => ?_) h
           have h : VC29_l3 g K ret23v atv l32 out X1 sym v8 X3 := h
           unfold VC29_l3 at h
           refine sr ?_
           refine rq 1 (ob := (Ts 1 True)) (st' := (⟨19, [e29_41 g, e29_15 l32 g sym, e29_84 g, sI 8 v8, sB 9 (decide (v8 < (g.2.2.2.length : Int))), e29_51 w, e29_12 g, e29_57, e29_65, e29_58, sI 29 atv], [e29_7, e29_6 l32, e29_17 l32, hA 30202 3 (.int .i64) out, e29_0 ret23v, e29_1 ret23v, e29_2 ret23v]⟩ : St)) (by kernel_rfl) (tsI 1 trivial) ?_
           refine nn ?_
           refine aw_seq ?_
           refine aw_cond (b := (decide (v8 < (g.2.2.2.length : Int)))) (by kernel_rfl) (fun hb => ?_) (fun hb => ?_)
           ·have h := h.1 hb
            refine aw_skip ?_
            refine thenQ_n ?_
            refine aw_seq ?_
            refine aw_block ?_
            refine sr ?_
            refine rq 2 (ob := (Ts 2 True)) (st' := (⟨19, [e29_41 g, e29_15 l32 g sym, sI 5 v8, e29_84 g, sI 8 v8, e29_51 w, e29_12 g, e29_57, e29_65, e29_58, sI 29 atv], [e29_7, e29_6 l32, e29_17 l32, hA 30202 3 (.int .i64) out, e29_0 ret23v, e29_1 ret23v, e29_2 ret23v]⟩ : St)) (by kernel_rfl) (tsI 2 trivial) ?_
            refine nsr ?_
            obtain ⟨o1, h⟩ := h
            refine rq 5 (ob := (Ts 3 (inIdx v8 g.2.2.2.length ∧ Ts 1 True))) (st' := (⟨19, [e29_41 g, e29_15 l32 g sym, sI 5 v8, e29_84 g, sI 8 v8, s1 11 (.cl 56 [.ad ⟨(.int .i64), (l32.getD ((((l32.length : Int) - (1 : Int))).toNat) (0 : Int))⟩, .ad ⟨(.pr (.int .i64) (.pr (.int .i64) (.pr (.int .i64) (.sl (.pr (.int .i64) (.sl (.int .i64))))))), g⟩, .pt 30001 0, .ad ⟨(.int .i64), sym⟩]), sA 15 [.pI ((g.2.2.2.getD (v8).toNat ((0 : Int), ([] : LI))).1), .pS ((g.2.2.2.getD (v8).toNat ((0 : Int), ([] : LI))).2)], e29_51 w, e29_12 g, e29_57, e29_65, e29_58, sI 29 atv], [e29_7, e29_6 l32, e29_17 l32, hA 30202 3 (.int .i64) out, e29_0 ret23v, e29_1 ret23v, e29_2 ret23v]⟩ : St)) (by kernel_rfl) (tsI 3 ⟨o1, tsI 1 trivial⟩) ?_
            refine awl_inlr [.t 6] [30001, 30200, 30201, 30202, 50000, 50001, 50002] [.agg [.pI ((g.2.2.2.getD (v8).toNat ((0 : Int), ([] : LI))).1), .pS ((g.2.2.2.getD (v8).toNat ((0 : Int), ([] : LI))).2)]] [.c (.ad (.int .i64) (l32.getD ((((l32.length : Int) - (1 : Int))).toNat) (0 : Int))), .c (.ad (.pr (.int .i64) (.pr (.int .i64) (.pr (.int .i64) (.sl (.pr (.int .i64) (.sl (.int .i64))))))) g), .c (.ptr 30001 0), .c (.ad (.int .i64) sym)] rfl rfl (by kernel_rfl) rfl (by kernel_rfl) Try.call56 (by kernel_rfl) (by kernel_rfl) Try.func56 rfl rfl (by kernel_rfl) ?_
            refine aw_conv [] (st' := (⟨21, [sA 0 [.pI ((g.2.2.2.getD (v8).toNat ((0 : Int), ([] : LI))).1), .pS ((g.2.2.2.getD (v8).toNat ((0 : Int), ([] : LI))).2)], e29_63 l32, e29_8 g, sp 3 30001, s1 4 (.ad (.int .i64) sym), e29_32 g, e29_10 l32 g sym, sI 26 v8, e29_53 g, sI 29 v8, s1 32 (.cl 56 [.ad ⟨(.int .i64), (l32.getD ((((l32.length : Int) - (1 : Int))).toNat) (0 : Int))⟩, .ad ⟨(.pr (.int .i64) (.pr (.int .i64) (.pr (.int .i64) (.sl (.pr (.int .i64) (.sl (.int .i64))))))), g⟩, .pt 30001 0, .ad ⟨(.int .i64), sym⟩]), sA 36 [.pI ((g.2.2.2.getD (v8).toNat ((0 : Int), ([] : LI))).1), .pS ((g.2.2.2.getD (v8).toNat ((0 : Int), ([] : LI))).2)], e29_86 w, e29_19 g, e29_87, e29_77, e29_88, sI 50 atv], [e29_7, e29_6 l32, e29_17 l32, hA 30202 3 (.int .i64) out, e29_0 ret23v, e29_1 ret23v, e29_2 ret23v]⟩ : St)) (by kernel_rfl) ?_
            refine sr ?_
            refine rq 2 (ob := (Ts 2 True)) (st' := (⟨21, [e29_63 l32, e29_8 g, sp 3 30001, s1 4 (.ad (.int .i64) sym), sp 5 5, e29_32 g, e29_10 l32 g sym, sI 26 v8, e29_53 g, sI 29 v8, e29_86 w, e29_19 g, e29_87, e29_77, e29_88, sI 50 atv], [hB 5 [.pI ((g.2.2.2.getD (v8).toNat ((0 : Int), ([] : LI))).1), .pS ((g.2.2.2.getD (v8).toNat ((0 : Int), ([] : LI))).2)], e29_7, e29_6 l32, e29_17 l32, hA 30202 3 (.int .i64) out, e29_0 ret23v, e29_1 ret23v, e29_2 ret23v]⟩ : St)) (by kernel_rfl) (tsI 2 trivial) ?_
            refine nn ?_
            refine aw_seq ?_
            refine withJoin (σ := Bool) (fun s => (⟨21, [sB 6 s, e29_32 g, e29_10 l32 g sym, sI 26 v8, e29_53 g, sI 29 v8, e29_86 w, e29_19 g, e29_87, e29_77, e29_88, sI 50 atv], [e29_7, e29_6 l32, e29_17 l32, hA 30202 3 (.int .i64) out, e29_0 ret23v, e29_1 ret23v, e29_2 ret23v]⟩ : St)) (fun s => VC29_k8 g K atv l32 out X1 v8 X3 s) (fun v6 h => ?_) (fun rest6 => ?_)
            ·have h : VC29_k8 g K atv l32 out X1 v8 X3 v6 := h
             unfold VC29_k8 at h
             refine thenQ_n ?_
             refine aw_ret ?_
             refine inlR_r (ob := True) (.v (.c (.pB v6))) (by kernel_rfl) trivial rfl ?_
             refine lpr (st' := (⟨19, [e29_41 g, e29_15 l32 g sym, sI 5 v8, e29_84 g, sI 8 v8, sB 16 v6, e29_51 w, e29_12 g, e29_57, e29_65, e29_58, sI 29 atv], [e29_7, e29_6 l32, e29_17 l32, hA 30202 3 (.int .i64) out, e29_0 ret23v, e29_1 ret23v, e29_2 ret23v]⟩ : St)) (by kernel_rfl) ?_
             refine nn ?_
             refine aw_cond (b := v6) (by kernel_rfl) (fun hb => ?_) (fun hb => ?_)
             ·have h := h.1 hb
              refine sr ?_
              refine rq 2 (ob := (Ts 2 True)) (st' := (⟨19, [sI 4 v8, e29_51 w, e29_12 g, e29_57, e29_65, e29_58, sI 29 atv], [e29_7, e29_6 l32, e29_17 l32, hA 30202 3 (.int .i64) out, e29_0 ret23v, e29_1 ret23v, e29_2 ret23v]⟩ : St)) (by kernel_rfl) (tsI 2 trivial) ?_
              refine nn ?_
              refine aw_ret ?_
              refine blockQ_r ?_
              refine thenQ_r ?_
              refine thenQ_r ?_
              refine blockQ_r ?_
              refine thenQ_r ?_
              exact rest4 v8 h
             ·have h := h.2 hb
              refine aw_skip ?_
              refine blockQ_n ?_
              refine thenQ_n ?_
              refine aw_region ?_
              obtain ⟨o1, h⟩ := h
              refine rq 2 (ob := (InR (v8 + (1 : Int)) ∧ Ts 1 True)) (st' := (⟨19, [e29_41 g, e29_15 l32 g sym, e29_84 g, sI 8 (v8 + (1 : Int)), e29_51 w, e29_12 g, e29_57, e29_65, e29_58, sI 29 atv], [e29_7, e29_6 l32, e29_17 l32, hA 30202 3 (.int .i64) out, e29_0 ret23v, e29_1 ret23v, e29_2 ret23v]⟩ : St)) (by kernel_rfl) (⟨o1, tsI 1 trivial⟩) ?_
              refine awl_nil ?_
              exact thenQ_n ⟨(v8 + (1 : Int)), rfl, h⟩
            ·refine aw_conv [.ren 5 30800] (st' := (⟨21, [e29_63 l32, e29_8 g, sp 3 30001, s1 4 (.ad (.int .i64) sym), sp 5 30800, e29_32 g, e29_10 l32 g sym, sI 26 v8, e29_53 g, sI 29 v8, e29_86 w, e29_19 g, e29_87, e29_77, e29_88, sI 50 atv], [hB 30800 [.pI ((g.2.2.2.getD (v8).toNat ((0 : Int), ([] : LI))).1), .pS ((g.2.2.2.getD (v8).toNat ((0 : Int), ([] : LI))).2)], e29_7, e29_6 l32, e29_17 l32, hA 30202 3 (.int .i64) out, e29_0 ret23v, e29_1 ret23v, e29_2 ret23v]⟩ : St)) (by kernel_rfl) ?_
             refine awd_begin [30001, 30200, 30201, 30202, 50000, 50001, 50002] (by kernel_rfl) ?_
             obtain ⟨o1, h⟩ := h
             refine drq (by kernel_rfl) [0, 1, 2, 3, 4, 5, 6, 7, 9, 11] (ob := (Ts 5 (InR ((l32.getD ((((l32.length : Int) - (1 : Int))).toNat) (0 : Int)) - g.1) ∧ Ts 2 (Ti 2 ((decide ((g.2.2.2.getD (v8).toNat ((0 : Int), ([] : LI))).1 = ((l32.getD ((((l32.length : Int) - (1 : Int))).toNat) (0 : Int)) - g.1))) = true → True) True)))) (done' := [11, 9, 7, 6, 5, 4, 3, 2, 1, 0]) (st' := (⟨21, [sp 3 30001, e29_26 g v8 l32, e29_56 g v8, (18, [(14, true)], .v (.c (.pI sym))), e29_32 g, e29_10 l32 g sym, sI 26 v8, e29_53 g, sI 29 v8, e29_86 w, e29_19 g, e29_87, e29_77, e29_88, sI 50 atv], [e29_7, e29_6 l32, e29_17 l32, hA 30202 3 (.int .i64) out, e29_0 ret23v, e29_1 ret23v, e29_2 ret23v]⟩ : St)) (by kernel_rfl) (tsI 5 ⟨o1, tsI 2 (tiI 2 (fun _ => trivial) trivial)⟩) ?_
             refine awd_one (i := 8) (by kernel_rfl) ?_
             refine dsq (ob := ((decide ((g.2.2.2.getD (v8).toNat ((0 : Int), ([] : LI))).1 = ((l32.getD ((((l32.length : Int) - (1 : Int))).toNat) (0 : Int)) - g.1))) = true → True)) (st' := (⟨21, [e29_26 g v8 l32, (15, [(14, true)], .v (.c (.ptr 50000 0))), e29_56 g v8, (18, [(14, true)], .v (.c (.pI sym))), e29_32 g, e29_10 l32 g sym, sI 26 v8, e29_53 g, sI 29 v8, e29_86 w, e29_19 g, e29_87, e29_77, e29_88, sI 50 atv], [e29_7, e29_6 l32, e29_17 l32, hA 30202 3 (.int .i64) out, e29_0 ret23v, e29_1 ret23v, e29_2 ret23v]⟩ : St)) rfl (by kernel_rfl) (fun _ => trivial) ?_
             refine awd_one (i := 10) (by kernel_rfl) ?_
             refine adop_inlg [.t 4] [(14, true)] [.c (.ptr 50000 0), .agg [.pI ((g.2.2.2.getD (v8).toNat ((0 : Int), ([] : LI))).1), .pS ((g.2.2.2.getD (v8).toNat ((0 : Int), ([] : LI))).2)]] [] (.v (.c (.pW (0 : Int)))) rfl (by kernel_rfl) rfl (by kernel_rfl) rfl (by kernel_rfl) Try.call57 (by kernel_rfl) (by kernel_rfl) Try.func57 rfl rfl (by kernel_rfl) (fun hb => ?_) (fun hb => ?_)
             ·have h := h.1 hb
              refine aw_conv [] (st' := (⟨26, [e29_40, sA 1 [.pI ((g.2.2.2.getD (v8).toNat ((0 : Int), ([] : LI))).1), .pS ((g.2.2.2.getD (v8).toNat ((0 : Int), ([] : LI))).2)], e29_18 g v8 l32, sp 41 50000, sA 42 [.pI ((g.2.2.2.getD (v8).toNat ((0 : Int), ([] : LI))).1), .pS ((g.2.2.2.getD (v8).toNat ((0 : Int), ([] : LI))).2)], sI 44 sym, e29_36 g, e29_14 l32 g sym, sI 52 v8, e29_55 g, sI 55 v8, s1 67 (.pS w), e29_21 g, e29_90, e29_82, e29_91, sI 76 atv], [e29_7, e29_6 l32, e29_17 l32, hA 30202 3 (.int .i64) out, e29_0 ret23v, e29_1 ret23v, e29_2 ret23v]⟩ : St)) (by kernel_rfl) ?_
              refine sr ?_
              refine rq 2 (ob := (Ts 2 True)) (st' := (⟨26, [e29_40, sp 3 3, e29_18 g v8 l32, sI 44 sym, e29_36 g, e29_14 l32 g sym, sI 52 v8, e29_55 g, sI 55 v8, s1 67 (.pS w), e29_21 g, e29_90, e29_82, e29_91, sI 76 atv], [e29_66 g v8, e29_7, e29_6 l32, e29_17 l32, hA 30202 3 (.int .i64) out, e29_0 ret23v, e29_1 ret23v, e29_2 ret23v]⟩ : St)) (by kernel_rfl) (tsI 2 trivial) ?_
              refine nsr ?_
              refine rq 3 (ob := (Ts 3 True)) (st' := (⟨26, [e29_40, sp 3 3, sp 8 50000, s1 10 (.pS ((g.2.2.2.getD (v8).toNat ((0 : Int), ([] : LI))).2)), e29_18 g v8 l32, sI 44 sym, e29_36 g, e29_14 l32 g sym, sI 52 v8, e29_55 g, sI 55 v8, s1 67 (.pS w), e29_21 g, e29_90, e29_82, e29_91, sI 76 atv], [e29_66 g v8, e29_7, e29_6 l32, e29_17 l32, hA 30202 3 (.int .i64) out, e29_0 ret23v, e29_1 ret23v, e29_2 ret23v]⟩ : St)) (by kernel_rfl) (tsI 3 trivial) ?_
              refine awl_conv [.ren 3 30900] (st' := (⟨26, [e29_40, sp 3 30900, sp 8 50000, s1 10 (.pS ((g.2.2.2.getD (v8).toNat ((0 : Int), ([] : LI))).2)), e29_18 g v8 l32, sI 44 sym, e29_36 g, e29_14 l32 g sym, sI 52 v8, e29_55 g, sI 55 v8, s1 67 (.pS w), e29_21 g, e29_90, e29_82, e29_91, sI 76 atv], [e29_11 g v8, e29_7, e29_6 l32, e29_17 l32, hA 30202 3 (.int .i64) out, e29_0 ret23v, e29_1 ret23v, e29_2 ret23v]⟩ : St)) (by kernel_rfl) ?_
              refine awl_inlr [.t 4, .t 5] [30900, 30001, 30200, 30201, 30202, 50000, 50001, 50002] [.c (.ptr 50000 0), .c (.pS ((g.2.2.2.getD (v8).toNat ((0 : Int), ([] : LI))).2))] [] rfl rfl (by kernel_rfl) rfl (by kernel_rfl) Try.call82 (by kernel_rfl) (by kernel_rfl) Try.func82 rfl rfl (by kernel_rfl) ?_
              refine aw_conv [] (st' := (⟨57, [e29_40, s1 1 (.pS ((g.2.2.2.getD (v8).toNat ((0 : Int), ([] : LI))).2)), e29_45, e29_78, sp 65 50000, s1 67 (.pS ((g.2.2.2.getD (v8).toNat ((0 : Int), ([] : LI))).2)), e29_13 g v8 l32, sI 101 sym, e29_22 g, e29_5 l32 g sym, sI 109 v8, e29_39 g, sI 112 v8, e29_60 w, e29_16 g, e29_70, e29_47, e29_71, sI 133 atv], [e29_11 g v8, e29_7, e29_6 l32, e29_17 l32, hA 30202 3 (.int .i64) out, e29_0 ret23v, e29_1 ret23v, e29_2 ret23v]⟩ : St)) (by kernel_rfl) ?_
              refine withJoinR (σ := Int × Bool) (fun s => (⟨57, [s1 4 (.pW s.1), sB 5 s.2, e29_45, e29_78, e29_13 g v8 l32, sI 101 sym, e29_22 g, e29_5 l32 g sym, sI 109 v8, e29_39 g, sI 112 v8, e29_60 w, e29_16 g, e29_70, e29_47, e29_71, sI 133 atv], [e29_7, e29_6 l32, e29_17 l32, hA 30202 3 (.int .i64) out, e29_11 g v8, e29_0 ret23v, e29_1 ret23v, e29_2 ret23v]⟩ : St)) (fun s => VC29_k9 g K ret23v atv l32 out X1 sym v8 X3 s.1 s.2) (fun s h => ?_) (fun rest8 => ?_)
              ·obtain ⟨v4, v5⟩ := s
               have h : VC29_k9 g K ret23v atv l32 out X1 sym v8 X3 v4 v5 := h
               unfold VC29_k9 at h
               refine inlR_n (ob := (True ∧ True ∧ True)) (.tup [.c (.pW v4), .c (.pB v5)]) (by kernel_rfl) ⟨trivial, trivial, trivial⟩ rfl ?_
               refine lpr (st' := (⟨26, [e29_40, sp 3 30900, (11, [], .tup [.c (.pW v4), .c (.pB v5)]), e29_18 g v8 l32, sI 44 sym, e29_36 g, e29_14 l32 g sym, sI 52 v8, e29_55 g, sI 55 v8, s1 67 (.pS w), e29_21 g, e29_90, e29_82, e29_91, sI 76 atv], [e29_7, e29_6 l32, e29_17 l32, hA 30202 3 (.int .i64) out, e29_11 g v8, e29_0 ret23v, e29_1 ret23v, e29_2 ret23v]⟩ : St)) (by kernel_rfl) ?_
               refine rq 5 (ob := (Ts 5 True)) (st' := (⟨26, [e29_40, sp 3 30900, s1 5 (.pW v4), sB 6 v5, e29_18 g v8 l32, sI 44 sym, e29_36 g, e29_14 l32 g sym, sI 52 v8, e29_55 g, sI 55 v8, s1 67 (.pS w), e29_21 g, e29_90, e29_82, e29_91, sI 76 atv], [e29_7, e29_6 l32, e29_17 l32, hA 30202 3 (.int .i64) out, e29_11 g v8, e29_0 ret23v, e29_1 ret23v, e29_2 ret23v]⟩ : St)) (by kernel_rfl) (tsI 5 trivial) ?_
               refine nn ?_
               refine aw_seq ?_
               refine sr ?_
               refine rq 1 (ob := (Ts 1 True)) (st' := (⟨26, [e29_40, sp 3 30900, s1 5 (.pW v4), sB 14 v5, e29_18 g v8 l32, sI 44 sym, e29_36 g, e29_14 l32 g sym, sI 52 v8, e29_55 g, sI 55 v8, s1 67 (.pS w), e29_21 g, e29_90, e29_82, e29_91, sI 76 atv], [e29_7, e29_6 l32, e29_17 l32, hA 30202 3 (.int .i64) out, e29_11 g v8, e29_0 ret23v, e29_1 ret23v, e29_2 ret23v]⟩ : St)) (by kernel_rfl) (tsI 1 trivial) ?_
               refine nn ?_
               refine withJoin (σ := Int) (fun s => (⟨26, [s1 5 (.pW s), e29_18 g v8 l32, sI 44 sym, e29_36 g, e29_14 l32 g sym, sI 52 v8, e29_55 g, sI 55 v8, s1 67 (.pS w), e29_21 g, e29_90, e29_82, e29_91, sI 76 atv], [e29_7, e29_6 l32, e29_17 l32, hA 30202 3 (.int .i64) out, e29_0 ret23v, e29_1 ret23v, e29_2 ret23v]⟩ : St)) (fun s => VC29_k10 g K atv l32 out X1 sym v8 X3 s) (fun out2 h => ?_) (fun rest7 => ?_)
               ·have h : VC29_k10 g K atv l32 out X1 sym v8 X3 out2 := h
                unfold VC29_k10 at h
                refine thenQ_n ?_
                refine sr ?_
                refine rq 2 (ob := (Ts 2 True)) (st' := (⟨26, [s1 4 (.pW out2), e29_18 g v8 l32, sI 44 sym, e29_36 g, e29_14 l32 g sym, sI 52 v8, e29_55 g, sI 55 v8, s1 67 (.pS w), e29_21 g, e29_90, e29_82, e29_91, sI 76 atv], [e29_7, e29_6 l32, e29_17 l32, hA 30202 3 (.int .i64) out, e29_0 ret23v, e29_1 ret23v, e29_2 ret23v]⟩ : St)) (by kernel_rfl) (tsI 2 trivial) ?_
                refine nn ?_
                refine aw_ret ?_
                refine inlR_r (ob := True) (.v (.c (.pW out2))) (by kernel_rfl) trivial rfl ?_
                refine dpr (st' := (⟨21, [e29_26 g v8 l32, s1 17 (.pW out2), sI 18 sym, e29_32 g, e29_10 l32 g sym, sI 26 v8, e29_53 g, sI 29 v8, e29_86 w, e29_19 g, e29_87, e29_77, e29_88, sI 50 atv], [e29_7, e29_6 l32, e29_17 l32, hA 30202 3 (.int .i64) out, e29_0 ret23v, e29_1 ret23v, e29_2 ret23v]⟩ : St)) (by kernel_rfl) ?_
                refine awd_one (i := 12) (by kernel_rfl) ?_
                refine adop_callk (p := [(14, true)]) (l := [toV1 (.int .u32) out2, toV1 (.int .i64) sym]) (cl := []) false [.d (.int .u32), .d (.int .i64)] [14, 19, 21, 22, 26, 28, 29, 41, 42, 47, 48, 49, 50] [30001, 30200, 30201, 30202, 50000, 50001, 50002] (fun (ret19v : Bool) => VC29_k8 g K atv l32 out X1 v8 X3 ((decide ((g.2.2.2.getD (v8).toNat ((0 : Int), ([] : LI))).1 = ((l32.getD ((((l32.length : Int) - (1 : Int))).toNat) (0 : Int)) - g.1))) && ret19v)) (fun ret19v => [toV1 .bool ret19v]) (fun ret19v => (⟨21, [e29_26 g v8 l32, (19, [(14, true)], .v (.c (.pB ret19v))), e29_32 g, e29_10 l32 g sym, sI 26 v8, e29_53 g, sI 29 v8, e29_86 w, e29_19 g, e29_87, e29_77, e29_88, sI 50 atv], [e29_7, e29_6 l32, e29_17 l32, hA 30202 3 (.int .i64) out, e29_0 ret23v, e29_1 ret23v, e29_2 ret23v]⟩ : St)) rfl (by kernel_rfl) rfl (by kernel_rfl) rfl (by kernel_rfl) Try.call47 (by kernel_rfl) (fun ret19v => by kernel_rfl) (fun e => by cases e) (fun hg => link47 out2 sym _ (by have := gcall_T h (show (decide ((g.2.2.2.getD (v8).toNat ((0 : Int), ([] : LI))).1 = ((l32.getD ((((l32.length : Int) - (1 : Int))).toNat) (0 : Int)) - g.1))) = true from hg); exact this)) (fun hg => ⟨false, by have := gcall_F h (show (decide ((g.2.2.2.getD (v8).toNat ((0 : Int), ([] : LI))).1 = ((l32.getD ((((l32.length : Int) - (1 : Int))).toNat) (0 : Int)) - g.1))) = false from hg); exact this⟩) (fun ret19v h => ?_)
                refine drq (by kernel_rfl) [13, 14] (ob := (Ts 2 True)) (done' := [14, 13, 12, 10, 8, 11, 9, 7, 6, 5, 4, 3, 2, 1, 0]) (st' := (⟨21, [sB 6 ((decide ((g.2.2.2.getD (v8).toNat ((0 : Int), ([] : LI))).1 = ((l32.getD ((((l32.length : Int) - (1 : Int))).toNat) (0 : Int)) - g.1))) && ret19v), e29_32 g, e29_10 l32 g sym, sI 26 v8, e29_53 g, sI 29 v8, e29_86 w, e29_19 g, e29_87, e29_77, e29_88, sI 50 atv], [e29_7, e29_6 l32, e29_17 l32, hA 30202 3 (.int .i64) out, e29_0 ret23v, e29_1 ret23v, e29_2 ret23v]⟩ : St)) (by kernel_rfl) (tsI 2 trivial) ?_
                refine awd_done (by kernel_rfl) ?_
                exact rest6 ((decide ((g.2.2.2.getD (v8).toNat ((0 : Int), ([] : LI))).1 = ((l32.getD ((((l32.length : Int) - (1 : Int))).toNat) (0 : Int)) - g.1))) && ret19v) h
               ·refine aw_cond (b := v5) (by kernel_rfl) (fun hb => ?_) (fun hb => ?_)
                ·have h := h.1 hb
                 refine awd_begin [] (by kernel_rfl) ?_
                 obtain ⟨o1, h⟩ := h
                 refine drq (by kernel_rfl) [0, 1, 2, 3, 4, 5, 6, 7, 8, 9, 10] (ob := (Ts 7 (inIdx ((g.2.2.2.getD (v8).toNat ((0 : Int), ([] : LI))).1) ret23v.2.2.2.2.2.2.length ∧ Ts 3 True))) (done' := [10, 9, 8, 7, 6, 5, 4, 3, 2, 1, 0]) (st' := (⟨26, [s1 5 (.pW (bOr .u32 v4 (ret23v.2.2.2.2.2.2.getD (((g.2.2.2.getD (v8).toNat ((0 : Int), ([] : LI))).1).toNat) (0 : Int)))), e29_18 g v8 l32, sI 44 sym, e29_36 g, e29_14 l32 g sym, sI 52 v8, e29_55 g, sI 55 v8, s1 67 (.pS w), e29_21 g, e29_90, e29_82, e29_91, sI 76 atv], [e29_7, e29_6 l32, e29_17 l32, hA 30202 3 (.int .i64) out, e29_0 ret23v, e29_1 ret23v, e29_2 ret23v]⟩ : St)) (by kernel_rfl) (tsI 7 ⟨o1, tsI 3 trivial⟩) ?_
                 refine awd_done (by kernel_rfl) ?_
                 exact rest7 (bOr .u32 v4 (ret23v.2.2.2.2.2.2.getD (((g.2.2.2.getD (v8).toNat ((0 : Int), ([] : LI))).1).toNat) (0 : Int))) h
                ·have h := h.2 hb
                 refine cpr (st' := (⟨26, [s1 5 (.pW v4), e29_18 g v8 l32, sI 44 sym, e29_36 g, e29_14 l32 g sym, sI 52 v8, e29_55 g, sI 55 v8, s1 67 (.pS w), e29_21 g, e29_90, e29_82, e29_91, sI 76 atv], [e29_7, e29_6 l32, e29_17 l32, hA 30202 3 (.int .i64) out, e29_0 ret23v, e29_1 ret23v, e29_2 ret23v]⟩ : St)) (by kernel_rfl) ?_
                 refine aw_skip ?_
                 exact rest7 v4 h
              ·refine sr ?_
               refine rq 2 (ob := (Ts 2 True)) (st' := (⟨57, [e29_40, s1 1 (.pS ((g.2.2.2.getD (v8).toNat ((0 : Int), ([] : LI))).2)), e29_45, e29_78, e29_13 g v8 l32, sI 101 sym, e29_22 g, e29_5 l32 g sym, sI 109 v8, e29_39 g, sI 112 v8, e29_60 w, e29_16 g, e29_70, e29_47, e29_71, sI 133 atv], [e29_7, e29_6 l32, e29_17 l32, hA 30202 3 (.int .i64) out, e29_11 g v8, e29_0 ret23v, e29_1 ret23v, e29_2 ret23v]⟩ : St)) (by kernel_rfl) (tsI 2 trivial) ?_
               refine nsr ?_
               refine rq 1 (ob := (Ts 1 True)) (st' := (⟨57, [e29_40, s1 1 (.pS ((g.2.2.2.getD (v8).toNat ((0 : Int), ([] : LI))).2)), s1 6 (.pW (0 : Int)), e29_45, e29_78, e29_13 g v8 l32, sI 101 sym, e29_22 g, e29_5 l32 g sym, sI 109 v8, e29_39 g, sI 112 v8, e29_60 w, e29_16 g, e29_70, e29_47, e29_71, sI 133 atv], [e29_7, e29_6 l32, e29_17 l32, hA 30202 3 (.int .i64) out, e29_11 g v8, e29_0 ret23v, e29_1 ret23v, e29_2 ret23v]⟩ : St)) (by kernel_rfl) (tsI 1 trivial) ?_
               refine nn ?_
               refine aw_seq ?_
               refine sr ?_
               refine rq 3 (ob := (Ts 3 True)) (st' := (⟨57, [e29_40, s1 6 (.pW (0 : Int)), e29_37 g v8, e29_30 g v8, sI 11 (0 : Int), e29_45, e29_78, e29_13 g v8 l32, sI 101 sym, e29_22 g, e29_5 l32 g sym, sI 109 v8, e29_39 g, sI 112 v8, e29_60 w, e29_16 g, e29_70, e29_47, e29_71, sI 133 atv], [e29_7, e29_6 l32, e29_17 l32, hA 30202 3 (.int .i64) out, e29_11 g v8, e29_0 ret23v, e29_1 ret23v, e29_2 ret23v]⟩ : St)) (by kernel_rfl) (tsI 3 trivial) ?_
               refine nn ?_
               refine withJoin (σ := Int) (fun s => (⟨57, [s1 6 (.pW s), e29_45, e29_78, e29_13 g v8 l32, sI 101 sym, e29_22 g, e29_5 l32 g sym, sI 109 v8, e29_39 g, sI 112 v8, e29_60 w, e29_16 g, e29_70, e29_47, e29_71, sI 133 atv], [e29_7, e29_6 l32, e29_17 l32, hA 30202 3 (.int .i64) out, e29_11 g v8, e29_0 ret23v, e29_1 ret23v, e29_2 ret23v]⟩ : St)) (fun s => VC29_k11 g K ret23v atv l32 out X1 sym v8 X3 s) (fun out2 h => ?_) (fun rest9 => ?_)
               ·have h : VC29_k11 g K ret23v atv l32 out X1 sym v8 X3 out2 := h
                unfold VC29_k11 at h
                refine thenQ_n ?_
                refine sr ?_
                refine rq 3 (ob := (Ts 3 True)) (st' := (⟨57, [s1 4 (.pW out2), sB 5 true, e29_45, e29_78, e29_13 g v8 l32, sI 101 sym, e29_22 g, e29_5 l32 g sym, sI 109 v8, e29_39 g, sI 112 v8, e29_60 w, e29_16 g, e29_70, e29_47, e29_71, sI 133 atv], [e29_7, e29_6 l32, e29_17 l32, hA 30202 3 (.int .i64) out, e29_11 g v8, e29_0 ret23v, e29_1 ret23v, e29_2 ret23v]⟩ : St)) (by kernel_rfl) (tsI 3 trivial) ?_
                refine nn ?_
                refine aw_ret ?_
                exact rest8 (out2, true) h
               ·refine aw_block ?_
                refine aw_loop (σ := Int × Int) (fun s => (⟨57, [e29_40, s1 6 (.pW s.1), e29_37 g v8, e29_30 g v8, sI 11 s.2, e29_45, e29_78, e29_13 g v8 l32, sI 101 sym, e29_22 g, e29_5 l32 g sym, sI 109 v8, e29_39 g, sI 112 v8, e29_60 w, e29_16 g, e29_70, e29_47, e29_71, sI 133 atv], [e29_7, e29_6 l32, e29_17 l32, hA 30202 3 (.int .i64) out, e29_11 g v8, e29_0 ret23v, e29_1 ret23v, e29_2 ret23v]⟩ : St)) (fun s X => VC29_l4 g K ret23v atv l32 out X1 sym v8 X3 s.1 s.2 X) (s0 := ((0 : Int), (0 : Int))) (fun s X4 h => ?_) h
                obtain ⟨out2, v11⟩ := s
                have h : VC29_l4 g K ret23v atv l32 out X1 sym v8 X3 out2 v11 X4 := h
                unfold VC29_l4 at h
                refine sr ?_
                refine rq 1 (ob := (Ts 1 True)) (st' := (⟨57, [e29_40, s1 6 (.pW out2), e29_37 g v8, e29_30 g v8, sI 11 v11, sB 12 (decide (v11 < (((g.2.2.2.getD (v8).toNat ((0 : Int), ([] : LI))).2).length : Int))), e29_45, e29_78, e29_13 g v8 l32, sI 101 sym, e29_22 g, e29_5 l32 g sym, sI 109 v8, e29_39 g, sI 112 v8, e29_60 w, e29_16 g, e29_70, e29_47, e29_71, sI 133 atv], [e29_7, e29_6 l32, e29_17 l32, hA 30202 3 (.int .i64) out, e29_11 g v8, e29_0 ret23v, e29_1 ret23v, e29_2 ret23v]⟩ : St)) (by kernel_rfl) (tsI 1 trivial) ?_
                refine nn ?_
                refine aw_seq ?_
                refine aw_cond (b := (decide (v11 < (((g.2.2.2.getD (v8).toNat ((0 : Int), ([] : LI))).2).length : Int)))) (by kernel_rfl) (fun hb => ?_) (fun hb => ?_)
                ·have h := h.1 hb
                 refine aw_skip ?_
                 refine thenQ_n ?_
                 refine aw_seq ?_
                 refine aw_block ?_
                 refine sr ?_
                 obtain ⟨o1, h⟩ := h
                 refine rq 3 (ob := (inIdx v11 ((g.2.2.2.getD (v8).toNat ((0 : Int), ([] : LI))).2).length ∧ Ts 2 True)) (st' := (⟨57, [e29_40, s1 6 (.pW out2), e29_64 g v8 v11, e29_37 g v8, e29_30 g v8, sI 11 v11, e29_45, e29_78, e29_13 g v8 l32, sI 101 sym, e29_22 g, e29_5 l32 g sym, sI 109 v8, e29_39 g, sI 112 v8, e29_60 w, e29_16 g, e29_70, e29_47, e29_71, sI 133 atv], [e29_7, e29_6 l32, e29_17 l32, hA 30202 3 (.int .i64) out, e29_11 g v8, e29_0 ret23v, e29_1 ret23v, e29_2 ret23v]⟩ : St)) (by kernel_rfl) (⟨o1, tsI 2 trivial⟩) ?_
                 refine nn ?_
                 refine aw_seq ?_
                 refine sr ?_
                 refine rq 7 (ob := (Ts 7 True)) (st' := (⟨57, [e29_40, s1 6 (.pW out2), e29_64 g v8 v11, e29_37 g v8, e29_30 g v8, sI 11 v11, sB 21 (decide ((((g.2.2.2.getD (v8).toNat ((0 : Int), ([] : LI))).2).getD (v11).toNat (0 : Int)) < ret23v.1)), e29_45, e29_78, e29_13 g v8 l32, sI 101 sym, e29_22 g, e29_5 l32 g sym, sI 109 v8, e29_39 g, sI 112 v8, e29_60 w, e29_16 g, e29_70, e29_47, e29_71, sI 133 atv], [e29_7, e29_6 l32, e29_17 l32, hA 30202 3 (.int .i64) out, e29_11 g v8, e29_0 ret23v, e29_1 ret23v, e29_2 ret23v]⟩ : St)) (by kernel_rfl) (tsI 7 trivial) ?_
                 refine nn ?_
                 refine aw_cond (b := (decide ((((g.2.2.2.getD (v8).toNat ((0 : Int), ([] : LI))).2).getD (v11).toNat (0 : Int)) < ret23v.1))) (by kernel_rfl) (fun hb => ?_) (fun hb => ?_)
                 ·have h := h.1 hb
                  refine sr ?_
                  obtain ⟨o1, h⟩ := h
                  refine rq 6 (ob := (Ts 2 (0 ≤ (((g.2.2.2.getD (v8).toNat ((0 : Int), ([] : LI))).2).getD (v11).toNat (0 : Int)) ∧ Ts 3 True))) (st' := (⟨57, [s1 4 (.pW (bOr .u32 out2 (bShl .u32 (1 : Int) (((g.2.2.2.getD (v8).toNat ((0 : Int), ([] : LI))).2).getD (v11).toNat (0 : Int))))), sB 5 false, e29_45, e29_78, e29_13 g v8 l32, sI 101 sym, e29_22 g, e29_5 l32 g sym, sI 109 v8, e29_39 g, sI 112 v8, e29_60 w, e29_16 g, e29_70, e29_47, e29_71, sI 133 atv], [e29_7, e29_6 l32, e29_17 l32, hA 30202 3 (.int .i64) out, e29_11 g v8, e29_0 ret23v, e29_1 ret23v, e29_2 ret23v]⟩ : St)) (by kernel_rfl) (tsI 2 ⟨o1, tsI 3 trivial⟩) ?_
                  refine nn ?_
                  refine aw_ret ?_
                  refine thenQ_r ?_
                  refine blockQ_r ?_
                  refine thenQ_r ?_
                  refine thenQ_r ?_
                  refine blockQ_r ?_
                  refine thenQ_r ?_
                  exact rest8 ((bOr .u32 out2 (bShl .u32 (1 : Int) (((g.2.2.2.getD (v8).toNat ((0 : Int), ([] : LI))).2).getD (v11).toNat (0 : Int)))), false) h
                 ·have h := h.2 hb
                  refine aw_skip ?_
                  refine thenQ_n ?_
                  refine aw_seq ?_
                  refine awd_begin [] (by kernel_rfl) ?_
                  obtain ⟨o1, o2, h⟩ := h
                  refine drq (by kernel_rfl) [0, 1, 2, 3, 4, 5, 6, 7, 8, 9, 10, 11, 12, 13, 14, 15] (ob := (Ts 11 (InR ((((g.2.2.2.getD (v8).toNat ((0 : Int), ([] : LI))).2).getD (v11).toNat (0 : Int)) - ret23v.1) ∧ inIdx ((((g.2.2.2.getD (v8).toNat ((0 : Int), ([] : LI))).2).getD (v11).toNat (0 : Int)) - ret23v.1) ret23v.2.2.2.2.2.1.length ∧ Ts 3 True))) (done' := [15, 14, 13, 12, 11, 10, 9, 8, 7, 6, 5, 4, 3, 2, 1, 0]) (st' := (⟨57, [e29_40, s1 6 (.pW (bOr .u32 out2 (ret23v.2.2.2.2.2.1.getD ((((((g.2.2.2.getD (v8).toNat ((0 : Int), ([] : LI))).2).getD (v11).toNat (0 : Int)) - ret23v.1)).toNat) (0 : Int)))), e29_64 g v8 v11, e29_37 g v8, e29_30 g v8, sI 11 v11, e29_45, e29_78, e29_13 g v8 l32, sI 101 sym, e29_22 g, e29_5 l32 g sym, sI 109 v8, e29_39 g, sI 112 v8, e29_60 w, e29_16 g, e29_70, e29_47, e29_71, sI 133 atv], [e29_7, e29_6 l32, e29_17 l32, hA 30202 3 (.int .i64) out, e29_11 g v8, e29_0 ret23v, e29_1 ret23v, e29_2 ret23v]⟩ : St)) (by kernel_rfl) (tsI 11 (⟨o1, ⟨o2, tsI 3 trivial⟩⟩)) ?_
                  refine awd_done (by kernel_rfl) ?_
                  refine thenQ_n ?_
                  refine aw_seq ?_
                  refine awd_begin [] (by kernel_rfl) ?_
                  obtain ⟨o1, h⟩ := h
                  refine drq (by kernel_rfl) [0, 1, 2, 3, 4, 5, 6, 7, 8, 9, 10] (ob := (Ts 10 (InR ((((g.2.2.2.getD (v8).toNat ((0 : Int), ([] : LI))).2).getD (v11).toNat (0 : Int)) - ret23v.1) ∧ True))) (done' := [10, 9, 8, 7, 6, 5, 4, 3, 2, 1, 0]) (st' := (⟨57, [e29_40, s1 6 (.pW (bOr .u32 out2 (ret23v.2.2.2.2.2.1.getD ((((((g.2.2.2.getD (v8).toNat ((0 : Int), ([] : LI))).2).getD (v11).toNat (0 : Int)) - ret23v.1)).toNat) (0 : Int)))), e29_37 g v8, e29_30 g v8, sI 11 v11, s1 44 (.pW ret23v.2.2.2.2.1), sI 51 ((((g.2.2.2.getD (v8).toNat ((0 : Int), ([] : LI))).2).getD (v11).toNat (0 : Int)) - ret23v.1), e29_45, e29_78, e29_13 g v8 l32, sI 101 sym, e29_22 g, e29_5 l32 g sym, sI 109 v8, e29_39 g, sI 112 v8, e29_60 w, e29_16 g, e29_70, e29_47, e29_71, sI 133 atv], [e29_7, e29_6 l32, e29_17 l32, hA 30202 3 (.int .i64) out, e29_11 g v8, e29_0 ret23v, e29_1 ret23v, e29_2 ret23v]⟩ : St)) (by kernel_rfl) (tsI 10 ⟨o1, trivial⟩) ?_
                  refine awd_one (i := 11) (by kernel_rfl) ?_
                  refine dcq (d := 52) [.d (.int .u32), .d (.int .i64)] (fun ret52v => (⟨57, [e29_40, s1 6 (.pW (bOr .u32 out2 (ret23v.2.2.2.2.2.1.getD ((((((g.2.2.2.getD (v8).toNat ((0 : Int), ([] : LI))).2).getD (v11).toNat (0 : Int)) - ret23v.1)).toNat) (0 : Int)))), e29_37 g v8, e29_30 g v8, sI 11 v11, sB 52 ret52v, e29_45, e29_78, e29_13 g v8 l32, sI 101 sym, e29_22 g, e29_5 l32 g sym, sI 109 v8, e29_39 g, sI 112 v8, e29_60 w, e29_16 g, e29_70, e29_47, e29_71, sI 133 atv], [e29_7, e29_6 l32, e29_17 l32, hA 30202 3 (.int .i64) out, e29_11 g v8, e29_0 ret23v, e29_1 ret23v, e29_2 ret23v]⟩ : St)) rfl (by kernel_rfl) Try.call47 (fun _ => by kernel_rfl) (link47 ret23v.2.2.2.2.1 ((((g.2.2.2.getD (v8).toNat ((0 : Int), ([] : LI))).2).getD (v11).toNat (0 : Int)) - ret23v.1) _ h) (fun ret52v h => ?_)
                  refine drq (by kernel_rfl) [12] (ob := (Ts 1 True)) (done' := [12, 11, 10, 9, 8, 7, 6, 5, 4, 3, 2, 1, 0]) (st' := (⟨57, [e29_40, s1 6 (.pW (bOr .u32 out2 (ret23v.2.2.2.2.2.1.getD ((((((g.2.2.2.getD (v8).toNat ((0 : Int), ([] : LI))).2).getD (v11).toNat (0 : Int)) - ret23v.1)).toNat) (0 : Int)))), e29_37 g v8, e29_30 g v8, sI 11 v11, sB 53 (!ret52v), e29_45, e29_78, e29_13 g v8 l32, sI 101 sym, e29_22 g, e29_5 l32 g sym, sI 109 v8, e29_39 g, sI 112 v8, e29_60 w, e29_16 g, e29_70, e29_47, e29_71, sI 133 atv], [e29_7, e29_6 l32, e29_17 l32, hA 30202 3 (.int .i64) out, e29_11 g v8, e29_0 ret23v, e29_1 ret23v, e29_2 ret23v]⟩ : St)) (by kernel_rfl) (tsI 1 trivial) ?_
                  refine awd_done (by kernel_rfl) ?_
                  refine thenQ_n ?_
                  refine aw_cond (b := (!ret52v)) (by kernel_rfl) (fun hb => ?_) (fun hb => ?_)
                  ·have h := h.1 hb
                   refine sr ?_
                   refine rq 3 (ob := (Ts 3 True)) (st' := (⟨57, [s1 4 (.pW (bOr .u32 out2 (ret23v.2.2.2.2.2.1.getD ((((((g.2.2.2.getD (v8).toNat ((0 : Int), ([] : LI))).2).getD (v11).toNat (0 : Int)) - ret23v.1)).toNat) (0 : Int)))), sB 5 false, e29_45, e29_78, e29_13 g v8 l32, sI 101 sym, e29_22 g, e29_5 l32 g sym, sI 109 v8, e29_39 g, sI 112 v8, e29_60 w, e29_16 g, e29_70, e29_47, e29_71, sI 133 atv], [e29_7, e29_6 l32, e29_17 l32, hA 30202 3 (.int .i64) out, e29_11 g v8, e29_0 ret23v, e29_1 ret23v, e29_2 ret23v]⟩ : St)) (by kernel_rfl) (tsI 3 trivial) ?_
                   refine nn ?_
                   refine aw_ret ?_
                   refine blockQ_r ?_
                   refine thenQ_r ?_
                   refine thenQ_r ?_
                   refine blockQ_r ?_
                   refine thenQ_r ?_
                   exact rest8 ((bOr .u32 out2 (ret23v.2.2.2.2.2.1.getD ((((((g.2.2.2.getD (v8).toNat ((0 : Int), ([] : LI))).2).getD (v11).toNat (0 : Int)) - ret23v.1)).toNat) (0 : Int))), false) h
                  ·have h := h.2 hb
                   refine aw_skip ?_
                   refine blockQ_n ?_
                   refine thenQ_n ?_
                   refine aw_region ?_
                   obtain ⟨o1, h⟩ := h
                   refine rq 2 (ob := (InR (v11 + (1 : Int)) ∧ Ts 1 True)) (st' := (⟨57, [e29_40, s1 6 (.pW (bOr .u32 out2 (ret23v.2.2.2.2.2.1.getD ((((((g.2.2.2.getD (v8).toNat ((0 : Int), ([] : LI))).2).getD (v11).toNat (0 : Int)) - ret23v.1)).toNat) (0 : Int)))), e29_37 g v8, e29_30 g v8, sI 11 (v11 + (1 : Int)), e29_45, e29_78, e29_13 g v8 l32, sI 101 sym, e29_22 g, e29_5 l32 g sym, sI 109 v8, e29_39 g, sI 112 v8, e29_60 w, e29_16 g, e29_70, e29_47, e29_71, sI 133 atv], [e29_7, e29_6 l32, e29_17 l32, hA 30202 3 (.int .i64) out, e29_11 g v8, e29_0 ret23v, e29_1 ret23v, e29_2 ret23v]⟩ : St)) (by kernel_rfl) (⟨o1, tsI 1 trivial⟩) ?_
                   refine awl_nil ?_
                   exact thenQ_n ⟨((bOr .u32 out2 (ret23v.2.2.2.2.2.1.getD ((((((g.2.2.2.getD (v8).toNat ((0 : Int), ([] : LI))).2).getD (v11).toNat (0 : Int)) - ret23v.1)).toNat) (0 : Int))), (v11 + (1 : Int))), rfl, h⟩
                ·have h := h.2 hb
                 refine cpr (st' := (⟨57, [s1 6 (.pW out2), e29_45, e29_78, e29_13 g v8 l32, sI 101 sym, e29_22 g, e29_5 l32 g sym, sI 109 v8, e29_39 g, sI 112 v8, e29_60 w, e29_16 g, e29_70, e29_47, e29_71, sI 133 atv], [e29_7, e29_6 l32, e29_17 l32, hA 30202 3 (.int .i64) out, e29_11 g v8, e29_0 ret23v, e29_1 ret23v, e29_2 ret23v]⟩ : St)) (by kernel_rfl) ?_
                 refine aw_exit ?_
                 refine thenQ_x ?_
                 refine thenQ_x ?_
                 refine blockQ_hit ?_
                 exact rest9 out2 h
             ·have h := h.2 hb
              refine dpr (st' := (⟨21, [e29_26 g v8 l32, (17, [(14, true)], .v (.c (.pW (0 : Int)))), (18, [(14, true)], .v (.c (.pI sym))), e29_32 g, e29_10 l32 g sym, sI 26 v8, e29_53 g, sI 29 v8, e29_86 w, e29_19 g, e29_87, e29_77, e29_88, sI 50 atv], [e29_7, e29_6 l32, e29_17 l32, hA 30202 3 (.int .i64) out, e29_0 ret23v, e29_1 ret23v, e29_2 ret23v]⟩ : St)) (by kernel_rfl) ?_
              refine awd_one (i := 12) (by kernel_rfl) ?_
              refine adop_callk (p := [(14, true)]) (l := [toV1 (.int .u32) (0 : Int), toV1 (.int .i64) sym]) (cl := []) false [.d (.int .u32), .d (.int .i64)] [14, 19, 21, 22, 26, 28, 29, 41, 42, 47, 48, 49, 50] [30001, 30200, 30201, 30202, 50000, 50001, 50002] (fun (ret19v : Bool) => VC29_k8 g K atv l32 out X1 v8 X3 ((decide ((g.2.2.2.getD (v8).toNat ((0 : Int), ([] : LI))).1 = ((l32.getD ((((l32.length : Int) - (1 : Int))).toNat) (0 : Int)) - g.1))) && ret19v)) (fun ret19v => [toV1 .bool ret19v]) (fun ret19v => (⟨21, [e29_26 g v8 l32, (19, [(14, true)], .v (.c (.pB ret19v))), e29_32 g, e29_10 l32 g sym, sI 26 v8, e29_53 g, sI 29 v8, e29_86 w, e29_19 g, e29_87, e29_77, e29_88, sI 50 atv], [e29_7, e29_6 l32, e29_17 l32, hA 30202 3 (.int .i64) out, e29_0 ret23v, e29_1 ret23v, e29_2 ret23v]⟩ : St)) rfl (by kernel_rfl) rfl (by kernel_rfl) rfl (by kernel_rfl) Try.call47 (by kernel_rfl) (fun ret19v => by kernel_rfl) (fun e => by cases e) (fun hg => link47 (0 : Int) sym _ (by have := gcall_T h (show (decide ((g.2.2.2.getD (v8).toNat ((0 : Int), ([] : LI))).1 = ((l32.getD ((((l32.length : Int) - (1 : Int))).toNat) (0 : Int)) - g.1))) = true from hg); exact this)) (fun hg => ⟨false, by have := gcall_F h (show (decide ((g.2.2.2.getD (v8).toNat ((0 : Int), ([] : LI))).1 = ((l32.getD ((((l32.length : Int) - (1 : Int))).toNat) (0 : Int)) - g.1))) = false from hg); exact this⟩) (fun ret19v h => ?_)
              refine drq (by kernel_rfl) [13, 14] (ob := (Ts 2 True)) (done' := [14, 13, 12, 10, 8, 11, 9, 7, 6, 5, 4, 3, 2, 1, 0]) (st' := (⟨21, [sB 6 ((decide ((g.2.2.2.getD (v8).toNat ((0 : Int), ([] : LI))).1 = ((l32.getD ((((l32.length : Int) - (1 : Int))).toNat) (0 : Int)) - g.1))) && ret19v), e29_32 g, e29_10 l32 g sym, sI 26 v8, e29_53 g, sI 29 v8, e29_86 w, e29_19 g, e29_87, e29_77, e29_88, sI 50 atv], [e29_7, e29_6 l32, e29_17 l32, hA 30202 3 (.int .i64) out, e29_0 ret23v, e29_1 ret23v, e29_2 ret23v]⟩ : St)) (by kernel_rfl) (tsI 2 trivial) ?_
              refine awd_done (by kernel_rfl) ?_
              exact rest6 ((decide ((g.2.2.2.getD (v8).toNat ((0 : Int), ([] : LI))).1 = ((l32.getD ((((l32.length : Int) - (1 : Int))).toNat) (0 : Int)) - g.1))) && ret19v) h
           ·have h := h.2 hb
            refine cpr (st' := (⟨19, [e29_51 w, e29_12 g, e29_57, e29_65, e29_58, sI 29 atv], [e29_7, e29_6 l32, e29_17 l32, hA 30202 3 (.int .i64) out, e29_0 ret23v, e29_1 ret23v, e29_2 ret23v]⟩ : St)) (by kernel_rfl) ?_
            refine aw_exit ?_
            refine thenQ_x ?_
            refine thenQ_x ?_
            refine blockQ_hit ?_
            exact rest5 () h
       ·refine aw_cond (b := (decide (atv < (w.length : Int)))) (by kernel_rfl) (fun hb => ?_) (fun hb => ?_)
        ·have h := h.1 hb
         refine aw_region ?_
         obtain ⟨o1, h⟩ := h
         refine rq 5 (ob := (Ts 2 (inIdx atv w.length ∧ Ts 2 True))) (st' := (⟨94, [e29_38 w, e29_8 g, e29_50, e29_48, sp 9 9, sI 10 atv, sp 11 11, sp 12 12], [e29_31 l32, e29_35 l32, hB 12 [.pI (w.getD (atv).toNat (0 : Int))], e29_54 l32, hA 5008 3 (.int .i64) out, e29_7, e29_0 ret23v, e29_1 ret23v, e29_2 ret23v]⟩ : St)) (by kernel_rfl) (tsI 2 ⟨o1, tsI 2 trivial⟩) ?_
         refine awl_nil ?_
         exact rest10 (w.getD (atv).toNat (0 : Int)) h
        ·have h := h.2 hb
         refine cpr (st' := (⟨94, [e29_38 w, e29_8 g, e29_50, e29_48, sp 9 9, sI 10 atv, sp 11 11, sp 12 12], [e29_31 l32, e29_35 l32, hB 12 [.pI g.1], e29_54 l32, hA 5008 3 (.int .i64) out, e29_7, e29_0 ret23v, e29_1 ret23v, e29_2 ret23v]⟩ : St)) (by kernel_rfl) ?_
         refine aw_skip ?_
         exact rest10 g.1 h
     ·have h := h.2 hb
      refine cpr (st' := (⟨94, [e29_38 w, e29_48, sI 10 atv], [hA 5008 3 (.int .i64) out]⟩ : St)) (by kernel_rfl) ?_
      refine aw_exit ?_
      refine thenQ_x ?_
      refine thenQ_x ?_
      refine blockQ_hit ?_
      exact rest1 (atv, out) h
  ·refine sr ?_
   refine rq 1 (ob := (Ts 1 True)) (st' := (⟨43, [e29_40, e29_62 w, e29_74, e29_75], [e29_3 g, e29_7, e29_0 ret23v, e29_1 ret23v, e29_2 ret23v]⟩ : St)) (by kernel_rfl) (tsI 1 trivial) ?_
   refine nsr ?_
   obtain ⟨o1, h⟩ := h
   refine rq 7 (ob := (Ts 5 (room ret23v.2.1 ∧ Ts 1 True))) (st' := (⟨43, [e29_40, e29_97, e29_62 w, e29_74, e29_75], [hA 12 28 (.int .u32) (List.replicate (ret23v.2.1).toNat (0 : Int)), e29_3 g, e29_7, e29_0 ret23v, e29_1 ret23v, e29_2 ret23v]⟩ : St)) (by kernel_rfl) (tsI 5 ⟨o1, tsI 1 trivial⟩) ?_
   refine nn ?_
   refine aw_seq ?_
   refine sr ?_
   refine rq 7 (ob := (Ts 7 True)) (st' := (⟨43, [e29_40, e29_97, e29_28 ret23v, e29_44 ret23v, sI 19 (0 : Int), e29_62 w, e29_74, e29_75], [hA 12 28 (.int .u32) (List.replicate (ret23v.2.1).toNat (0 : Int)), e29_3 g, e29_7, e29_0 ret23v, e29_1 ret23v, e29_2 ret23v]⟩ : St)) (by kernel_rfl) (tsI 7 trivial) ?_
   refine nn ?_
   refine withJoin (σ := Unit) (fun s => (⟨43, [e29_62 w, e29_74, e29_75], [e29_3 g, e29_7, e29_0 ret23v, e29_1 ret23v, e29_2 ret23v]⟩ : St)) (fun s => VC29_k12 g w K ret23v) (fun s h => ?_) (fun rest12 => ?_)
   ·have h : VC29_k12 g w K ret23v := h
    unfold VC29_k12 at h
    refine thenQ_n ?_
    refine sr ?_
    refine rq 1 (ob := (Ts 1 True)) (st' := (⟨43, [sB 2 true, e29_62 w, e29_74, e29_75], [e29_3 g, e29_7, e29_0 ret23v, e29_1 ret23v, e29_2 ret23v]⟩ : St)) (by kernel_rfl) (tsI 1 trivial) ?_
    refine nn ?_
    refine aw_ret ?_
    exact rest11 true h
   ·refine aw_block ?_
    refine aw_loop (σ := Int × LI) (fun s => (⟨43, [e29_40, e29_97, e29_28 ret23v, e29_44 ret23v, sI 19 s.1, e29_62 w, e29_74, e29_75], [hA 12 28 (.int .u32) s.2, e29_3 g, e29_7, e29_0 ret23v, e29_1 ret23v, e29_2 ret23v]⟩ : St)) (fun s X => VC29_l5 g w K ret23v s.1 s.2 X) (s0 := ((0 : Int), (List.replicate (ret23v.2.1).toNat (0 : Int)))) (fun s X5 h => ?_) h
    obtain ⟨v19, seen⟩ := s
    have h : VC29_l5 g w K ret23v v19 seen X5 := h
    unfold VC29_l5 at h
    refine sr ?_
    refine rq 1 (ob := (Ts 1 True)) (st' := (⟨43, [e29_40, e29_97, e29_28 ret23v, e29_44 ret23v, sI 19 v19, sB 20 (decide (v19 < (ret23v.2.2.2.1.length : Int))), e29_62 w, e29_74, e29_75], [hA 12 28 (.int .u32) seen, e29_3 g, e29_7, e29_0 ret23v, e29_1 ret23v, e29_2 ret23v]⟩ : St)) (by kernel_rfl) (tsI 1 trivial) ?_
    refine nn ?_
    refine aw_seq ?_
    refine aw_cond (b := (decide (v19 < (ret23v.2.2.2.1.length : Int)))) (by kernel_rfl) (fun hb => ?_) (fun hb => ?_)
    ·have h := h.1 hb
     refine aw_skip ?_
     refine thenQ_n ?_
     refine aw_seq ?_
     refine aw_block ?_
     refine sr ?_
     obtain ⟨o1, h⟩ := h
     refine rq 4 (ob := (inIdx v19 ret23v.2.2.2.1.length ∧ Ts 3 True)) (st' := (⟨43, [e29_40, e29_97, sp 5 5, e29_28 ret23v, e29_44 ret23v, sI 19 v19, e29_62 w, e29_74, e29_75], [hB 5 [.pI ((ret23v.2.2.2.1.getD (v19).toNat ((0 : Int), ([] : LI))).1), .pS ((ret23v.2.2.2.1.getD (v19).toNat ((0 : Int), ([] : LI))).2)], hA 12 28 (.int .u32) seen, e29_3 g, e29_7, e29_0 ret23v, e29_1 ret23v, e29_2 ret23v]⟩ : St)) (by kernel_rfl) (⟨o1, tsI 3 trivial⟩) ?_
     refine nsr ?_
     refine rq 2 (ob := (Ts 2 True)) (st' := (⟨43, [e29_40, e29_97, sp 5 5, e29_28 ret23v, e29_44 ret23v, sI 19 v19, sp 23 50000, sA 24 [.pI ((ret23v.2.2.2.1.getD (v19).toNat ((0 : Int), ([] : LI))).1), .pS ((ret23v.2.2.2.1.getD (v19).toNat ((0 : Int), ([] : LI))).2)], e29_62 w, e29_74, e29_75], [hB 5 [.pI ((ret23v.2.2.2.1.getD (v19).toNat ((0 : Int), ([] : LI))).1), .pS ((ret23v.2.2.2.1.getD (v19).toNat ((0 : Int), ([] : LI))).2)], hA 12 28 (.int .u32) seen, e29_3 g, e29_7, e29_0 ret23v, e29_1 ret23v, e29_2 ret23v]⟩ : St)) (by kernel_rfl) (tsI 2 trivial) ?_
     refine awl_conv [.ren 5 31100, .ren 12 31101] (st' := (⟨43, [e29_40, e29_96, sp 5 31100, e29_28 ret23v, e29_44 ret23v, sI 19 v19, sp 23 50000, sA 24 [.pI ((ret23v.2.2.2.1.getD (v19).toNat ((0 : Int), ([] : LI))).1), .pS ((ret23v.2.2.2.1.getD (v19).toNat ((0 : Int), ([] : LI))).2)], e29_62 w, e29_74, e29_75], [e29_4 ret23v v19, e29_23 seen, e29_3 g, e29_7, e29_0 ret23v, e29_1 ret23v, e29_2 ret23v]⟩ : St)) (by kernel_rfl) ?_
     refine awl_inlr [.t 4] [31100, 31101, 30000, 30001, 50000, 50001, 50002] [.c (.ptr 50000 0), .agg [.pI ((ret23v.2.2.2.1.getD (v19).toNat ((0 : Int), ([] : LI))).1), .pS ((ret23v.2.2.2.1.getD (v19).toNat ((0 : Int), ([] : LI))).2)]] [] rfl rfl (by kernel_rfl) rfl (by kernel_rfl) Try.call57 (by kernel_rfl) (by kernel_rfl) Try.func57 rfl rfl (by kernel_rfl) ?_
     refine aw_conv [] (st' := (⟨26, [e29_40, sA 1 [.pI ((ret23v.2.2.2.1.getD (v19).toNat ((0 : Int), ([] : LI))).1), .pS ((ret23v.2.2.2.1.getD (v19).toNat ((0 : Int), ([] : LI))).2)], e29_92, e29_83, e29_93, e29_29 ret23v, e29_46 ret23v, sI 45 v19, sp 49 50000, sA 50 [.pI ((ret23v.2.2.2.1.getD (v19).toNat ((0 : Int), ([] : LI))).1), .pS ((ret23v.2.2.2.1.getD (v19).toNat ((0 : Int), ([] : LI))).2)], s1 70 (.pS w), e29_94, e29_95], [e29_4 ret23v v19, e29_23 seen, e29_3 g, e29_7, e29_0 ret23v, e29_1 ret23v, e29_2 ret23v]⟩ : St)) (by kernel_rfl) ?_
     refine sr ?_
     refine rq 2 (ob := (Ts 2 True)) (st' := (⟨26, [e29_40, sp 3 3, e29_92, e29_83, e29_93, e29_29 ret23v, e29_46 ret23v, sI 45 v19, s1 70 (.pS w), e29_94, e29_95], [hB 3 [.pI ((ret23v.2.2.2.1.getD (v19).toNat ((0 : Int), ([] : LI))).1), .pS ((ret23v.2.2.2.1.getD (v19).toNat ((0 : Int), ([] : LI))).2)], e29_3 g, e29_7, e29_4 ret23v v19, e29_23 seen, e29_0 ret23v, e29_1 ret23v, e29_2 ret23v]⟩ : St)) (by kernel_rfl) (tsI 2 trivial) ?_
     refine nsr ?_
     refine rq 3 (ob := (Ts 3 True)) (st' := (⟨26, [e29_40, sp 3 3, sp 8 50000, s1 10 (.pS ((ret23v.2.2.2.1.getD (v19).toNat ((0 : Int), ([] : LI))).2)), e29_92, e29_83, e29_93, e29_29 ret23v, e29_46 ret23v, sI 45 v19, s1 70 (.pS w), e29_94, e29_95], [hB 3 [.pI ((ret23v.2.2.2.1.getD (v19).toNat ((0 : Int), ([] : LI))).1), .pS ((ret23v.2.2.2.1.getD (v19).toNat ((0 : Int), ([] : LI))).2)], e29_3 g, e29_7, e29_4 ret23v v19, e29_23 seen, e29_0 ret23v, e29_1 ret23v, e29_2 ret23v]⟩ : St)) (by kernel_rfl) (tsI 3 trivial) ?_
     refine awl_conv [.ren 3 31300] (st' := (⟨26, [e29_40, sp 3 31300, sp 8 50000, s1 10 (.pS ((ret23v.2.2.2.1.getD (v19).toNat ((0 : Int), ([] : LI))).2)), e29_92, e29_83, e29_93, e29_29 ret23v, e29_46 ret23v, sI 45 v19, s1 70 (.pS w), e29_94, e29_95], [e29_9 ret23v v19, e29_3 g, e29_7, e29_4 ret23v v19, e29_23 seen, e29_0 ret23v, e29_1 ret23v, e29_2 ret23v]⟩ : St)) (by kernel_rfl) ?_
     refine awl_inlr [.t 4, .t 5] [31300, 30000, 30001, 31100, 31101, 50000, 50001, 50002] [.c (.ptr 50000 0), .c (.pS ((ret23v.2.2.2.1.getD (v19).toNat ((0 : Int), ([] : LI))).2))] [] rfl rfl (by kernel_rfl) rfl (by kernel_rfl) Try.call82 (by kernel_rfl) (by kernel_rfl) Try.func82 rfl rfl (by kernel_rfl) ?_
     refine aw_conv [] (st' := (⟨57, [e29_40, s1 1 (.pS ((ret23v.2.2.2.1.getD (v19).toNat ((0 : Int), ([] : LI))).2)), e29_45, e29_79, sp 65 50000, s1 67 (.pS ((ret23v.2.2.2.1.getD (v19).toNat ((0 : Int), ([] : LI))).2)), e29_80, e29_49, e29_81, e29_20 ret23v, e29_34 ret23v, sI 102 v19, e29_61 w, e29_72, e29_73], [e29_9 ret23v v19, e29_3 g, e29_7, e29_4 ret23v v19, e29_23 seen, e29_0 ret23v, e29_1 ret23v, e29_2 ret23v]⟩ : St)) (by kernel_rfl) ?_
     refine withJoinR (σ := Int × Bool) (fun s => (⟨57, [s1 4 (.pW s.1), sB 5 s.2, e29_45, e29_79, e29_80, e29_49, e29_81, e29_20 ret23v, e29_34 ret23v, sI 102 v19, e29_61 w, e29_72, e29_73], [e29_3 g, e29_7, e29_4 ret23v v19, e29_23 seen, e29_9 ret23v v19, e29_0 ret23v, e29_1 ret23v, e29_2 ret23v]⟩ : St)) (fun s => VC29_k13 g w K ret23v v19 seen X5 s.1 s.2) (fun s h => ?_) (fun rest14 => ?_)
     ·obtain ⟨v4, v5⟩ := s
      have h : VC29_k13 g w K ret23v v19 seen X5 v4 v5 := h
      unfold VC29_k13 at h
      refine inlR_n (ob := (True ∧ True ∧ True)) (.tup [.c (.pW v4), .c (.pB v5)]) (by kernel_rfl) ⟨trivial, trivial, trivial⟩ rfl ?_
      refine lpr (st' := (⟨26, [e29_40, sp 3 31300, (11, [], .tup [.c (.pW v4), .c (.pB v5)]), e29_92, e29_83, e29_93, e29_29 ret23v, e29_46 ret23v, sI 45 v19, s1 70 (.pS w), e29_94, e29_95], [e29_3 g, e29_7, e29_4 ret23v v19, e29_23 seen, e29_9 ret23v v19, e29_0 ret23v, e29_1 ret23v, e29_2 ret23v]⟩ : St)) (by kernel_rfl) ?_
      refine rq 5 (ob := (Ts 5 True)) (st' := (⟨26, [e29_40, sp 3 31300, s1 5 (.pW v4), sB 6 v5, e29_92, e29_83, e29_93, e29_29 ret23v, e29_46 ret23v, sI 45 v19, s1 70 (.pS w), e29_94, e29_95], [e29_3 g, e29_7, e29_4 ret23v v19, e29_23 seen, e29_9 ret23v v19, e29_0 ret23v, e29_1 ret23v, e29_2 ret23v]⟩ : St)) (by kernel_rfl) (tsI 5 trivial) ?_
      refine nn ?_
      refine aw_seq ?_
      refine sr ?_
      refine rq 1 (ob := (Ts 1 True)) (st' := (⟨26, [e29_40, sp 3 31300, s1 5 (.pW v4), sB 14 v5, e29_92, e29_83, e29_93, e29_29 ret23v, e29_46 ret23v, sI 45 v19, s1 70 (.pS w), e29_94, e29_95], [e29_3 g, e29_7, e29_4 ret23v v19, e29_23 seen, e29_9 ret23v v19, e29_0 ret23v, e29_1 ret23v, e29_2 ret23v]⟩ : St)) (by kernel_rfl) (tsI 1 trivial) ?_
      refine nn ?_
      refine withJoin (σ := Int) (fun s => (⟨26, [s1 5 (.pW s), e29_92, e29_83, e29_93, e29_29 ret23v, e29_46 ret23v, sI 45 v19, s1 70 (.pS w), e29_94, e29_95], [e29_3 g, e29_7, e29_4 ret23v v19, e29_23 seen, e29_0 ret23v, e29_1 ret23v, e29_2 ret23v]⟩ : St)) (fun s => VC29_k14 g w K ret23v v19 seen X5 s) (fun out h => ?_) (fun rest13 => ?_)
      ·have h : VC29_k14 g w K ret23v v19 seen X5 out := h
       unfold VC29_k14 at h
       refine thenQ_n ?_
       refine sr ?_
       refine rq 2 (ob := (Ts 2 True)) (st' := (⟨26, [s1 4 (.pW out), e29_92, e29_83, e29_93, e29_29 ret23v, e29_46 ret23v, sI 45 v19, s1 70 (.pS w), e29_94, e29_95], [e29_3 g, e29_7, e29_4 ret23v v19, e29_23 seen, e29_0 ret23v, e29_1 ret23v, e29_2 ret23v]⟩ : St)) (by kernel_rfl) (tsI 2 trivial) ?_
       refine nn ?_
       refine aw_ret ?_
       refine inlR_r (ob := True) (.v (.c (.pW out))) (by kernel_rfl) trivial rfl ?_
       refine lpr (st' := (⟨43, [e29_40, e29_96, sp 5 31100, e29_28 ret23v, e29_44 ret23v, sI 19 v19, s1 25 (.pW out), e29_62 w, e29_74, e29_75], [e29_3 g, e29_7, e29_4 ret23v v19, e29_23 seen, e29_0 ret23v, e29_1 ret23v, e29_2 ret23v]⟩ : St)) (by kernel_rfl) ?_
       refine rq 1 (ob := (Ts 1 True)) (st' := (⟨43, [e29_40, e29_96, sp 5 31100, s1 6 (.pW out), e29_28 ret23v, e29_44 ret23v, sI 19 v19, e29_62 w, e29_74, e29_75], [e29_3 g, e29_7, e29_4 ret23v v19, e29_23 seen, e29_0 ret23v, e29_1 ret23v, e29_2 ret23v]⟩ : St)) (by kernel_rfl) (tsI 1 trivial) ?_
       refine nn ?_
       refine aw_seq ?_
       refine sr ?_
       obtain ⟨o1, h⟩ := h
       refine rq 8 (ob := (Ts 3 (inIdx ((ret23v.2.2.2.1.getD (v19).toNat ((0 : Int), ([] : LI))).1) seen.length ∧ Ts 4 True))) (st' := (⟨43, [e29_40, e29_96, sp 5 31100, s1 6 (.pW out), e29_28 ret23v, e29_44 ret23v, sI 19 v19, sB 33 (!decide ((bAnd .u32 (seen.getD (((ret23v.2.2.2.1.getD (v19).toNat ((0 : Int), ([] : LI))).1).toNat) (0 : Int)) out) = (0 : Int))), e29_62 w, e29_74, e29_75], [e29_3 g, e29_7, e29_4 ret23v v19, e29_23 seen, e29_0 ret23v, e29_1 ret23v, e29_2 ret23v]⟩ : St)) (by kernel_rfl) (tsI 3 ⟨o1, tsI 4 trivial⟩) ?_
       refine nn ?_
       refine aw_cond (b := (!decide ((bAnd .u32 (seen.getD (((ret23v.2.2.2.1.getD (v19).toNat ((0 : Int), ([] : LI))).1).toNat) (0 : Int)) out) = (0 : Int)))) (by kernel_rfl) (fun hb => ?_) (fun hb => ?_)
       ·have h := h.1 hb
        refine sr ?_
        refine rq 1 (ob := (Ts 1 True)) (st' := (⟨43, [sB 2 false, e29_62 w, e29_74, e29_75], [e29_3 g, e29_7, e29_0 ret23v, e29_1 ret23v, e29_2 ret23v]⟩ : St)) (by kernel_rfl) (tsI 1 trivial) ?_
        refine nn ?_
        refine aw_ret ?_
        refine thenQ_r ?_
        refine blockQ_r ?_
        refine thenQ_r ?_
        refine thenQ_r ?_
        refine blockQ_r ?_
        refine thenQ_r ?_
        exact rest11 false h
       ·have h := h.2 hb
        refine aw_skip ?_
        refine thenQ_n ?_
        refine aw_region ?_
        obtain ⟨o1, o2, h⟩ := h
        refine rq 9 (ob := (Ts 3 (inIdx ((ret23v.2.2.2.1.getD (v19).toNat ((0 : Int), ([] : LI))).1) seen.length ∧ Ts 3 (inIdx ((ret23v.2.2.2.1.getD (v19).toNat ((0 : Int), ([] : LI))).1) seen.length ∧ Ts 1 True)))) (st' := (⟨43, [e29_40, e29_96, e29_28 ret23v, e29_44 ret23v, sI 19 v19, e29_62 w, e29_74, e29_75], [e29_3 g, e29_7, hA 31101 28 (.int .u32) (seen.set (((ret23v.2.2.2.1.getD (v19).toNat ((0 : Int), ([] : LI))).1).toNat) (bOr .u32 (seen.getD (((ret23v.2.2.2.1.getD (v19).toNat ((0 : Int), ([] : LI))).1).toNat) (0 : Int)) out)), e29_0 ret23v, e29_1 ret23v, e29_2 ret23v]⟩ : St)) (by kernel_rfl) (tsI 3 (⟨o1, tsI 3 ⟨o2, tsI 1 trivial⟩⟩)) ?_
        refine awl_nil ?_
        refine blockQ_n ?_
        refine thenQ_n ?_
        refine aw_region ?_
        obtain ⟨o1, h⟩ := h
        refine rq 2 (ob := (InR (v19 + (1 : Int)) ∧ Ts 1 True)) (st' := (⟨43, [e29_40, e29_96, e29_28 ret23v, e29_44 ret23v, sI 19 (v19 + (1 : Int)), e29_62 w, e29_74, e29_75], [e29_3 g, e29_7, hA 31101 28 (.int .u32) (seen.set (((ret23v.2.2.2.1.getD (v19).toNat ((0 : Int), ([] : LI))).1).toNat) (bOr .u32 (seen.getD (((ret23v.2.2.2.1.getD (v19).toNat ((0 : Int), ([] : LI))).1).toNat) (0 : Int)) out)), e29_0 ret23v, e29_1 ret23v, e29_2 ret23v]⟩ : St)) (by kernel_rfl) (⟨o1, tsI 1 trivial⟩) ?_
        refine awl_conv [.ren 31101 51101, .ren 51101 12, .prune [0, 3, 17, 18, 19, 44, 45, 50] [12, 30000, 30001, 50000, 50001, 50002]] (st' := (⟨43, [e29_40, e29_97, e29_28 ret23v, e29_44 ret23v, sI 19 (v19 + (1 : Int)), e29_62 w, e29_74, e29_75], [hA 12 28 (.int .u32) (seen.set (((ret23v.2.2.2.1.getD (v19).toNat ((0 : Int), ([] : LI))).1).toNat) (bOr .u32 (seen.getD (((ret23v.2.2.2.1.getD (v19).toNat ((0 : Int), ([] : LI))).1).toNat) (0 : Int)) out)), e29_3 g, e29_7, e29_0 ret23v, e29_1 ret23v, e29_2 ret23v]⟩ : St)) (by kernel_rfl) ?_
        refine awl_nil ?_
        exact thenQ_n ⟨((v19 + (1 : Int)), (seen.set (((ret23v.2.2.2.1.getD (v19).toNat ((0 : Int), ([] : LI))).1).toNat) (bOr .u32 (seen.getD (((ret23v.2.2.2.1.getD (v19).toNat ((0 : Int), ([] : LI))).1).toNat) (0 : Int)) out))), rfl, h⟩
      ·refine aw_cond (b := v5) (by kernel_rfl) (fun hb => ?_) (fun hb => ?_)
       ·have h := h.1 hb
        refine awd_begin [] (by kernel_rfl) ?_
        obtain ⟨o1, h⟩ := h
        refine drq (by kernel_rfl) [0, 1, 2, 3, 4, 5, 6, 7, 8, 9, 10] (ob := (Ts 7 (inIdx ((ret23v.2.2.2.1.getD (v19).toNat ((0 : Int), ([] : LI))).1) ret23v.2.2.2.2.2.2.length ∧ Ts 3 True))) (done' := [10, 9, 8, 7, 6, 5, 4, 3, 2, 1, 0]) (st' := (⟨26, [s1 5 (.pW (bOr .u32 v4 (ret23v.2.2.2.2.2.2.getD (((ret23v.2.2.2.1.getD (v19).toNat ((0 : Int), ([] : LI))).1).toNat) (0 : Int)))), e29_92, e29_83, e29_93, e29_29 ret23v, e29_46 ret23v, sI 45 v19, s1 70 (.pS w), e29_94, e29_95], [e29_3 g, e29_7, e29_4 ret23v v19, e29_23 seen, e29_0 ret23v, e29_1 ret23v, e29_2 ret23v]⟩ : St)) (by kernel_rfl) (tsI 7 ⟨o1, tsI 3 trivial⟩) ?_
        refine awd_done (by kernel_rfl) ?_
        exact rest13 (bOr .u32 v4 (ret23v.2.2.2.2.2.2.getD (((ret23v.2.2.2.1.getD (v19).toNat ((0 : Int), ([] : LI))).1).toNat) (0 : Int))) h
       ·have h := h.2 hb
        refine cpr (st' := (⟨26, [s1 5 (.pW v4), e29_92, e29_83, e29_93, e29_29 ret23v, e29_46 ret23v, sI 45 v19, s1 70 (.pS w), e29_94, e29_95], [e29_3 g, e29_7, e29_4 ret23v v19, e29_23 seen, e29_0 ret23v, e29_1 ret23v, e29_2 ret23v]⟩ : St)) (by kernel_rfl) ?_
        refine aw_skip ?_
        exact rest13 v4 h
     ·refine sr ?_
      refine rq 2 (ob := (Ts 2 True)) (st' := (⟨57, [e29_40, s1 1 (.pS ((ret23v.2.2.2.1.getD (v19).toNat ((0 : Int), ([] : LI))).2)), e29_45, e29_79, e29_80, e29_49, e29_81, e29_20 ret23v, e29_34 ret23v, sI 102 v19, e29_61 w, e29_72, e29_73], [e29_3 g, e29_7, e29_4 ret23v v19, e29_23 seen, e29_9 ret23v v19, e29_0 ret23v, e29_1 ret23v, e29_2 ret23v]⟩ : St)) (by kernel_rfl) (tsI 2 trivial) ?_
      refine nsr ?_
      refine rq 1 (ob := (Ts 1 True)) (st' := (⟨57, [e29_40, s1 1 (.pS ((ret23v.2.2.2.1.getD (v19).toNat ((0 : Int), ([] : LI))).2)), s1 6 (.pW (0 : Int)), e29_45, e29_79, e29_80, e29_49, e29_81, e29_20 ret23v, e29_34 ret23v, sI 102 v19, e29_61 w, e29_72, e29_73], [e29_3 g, e29_7, e29_4 ret23v v19, e29_23 seen, e29_9 ret23v v19, e29_0 ret23v, e29_1 ret23v, e29_2 ret23v]⟩ : St)) (by kernel_rfl) (tsI 1 trivial) ?_
      refine nn ?_
      refine aw_seq ?_
      refine sr ?_
      refine rq 3 (ob := (Ts 3 True)) (st' := (⟨57, [e29_40, s1 6 (.pW (0 : Int)), e29_33 ret23v v19, e29_27 ret23v v19, sI 11 (0 : Int), e29_45, e29_79, e29_80, e29_49, e29_81, e29_20 ret23v, e29_34 ret23v, sI 102 v19, e29_61 w, e29_72, e29_73], [e29_3 g, e29_7, e29_4 ret23v v19, e29_23 seen, e29_9 ret23v v19, e29_0 ret23v, e29_1 ret23v, e29_2 ret23v]⟩ : St)) (by kernel_rfl) (tsI 3 trivial) ?_
      refine nn ?_
      refine withJoin (σ := Int) (fun s => (⟨57, [s1 6 (.pW s), e29_45, e29_79, e29_80, e29_49, e29_81, e29_20 ret23v, e29_34 ret23v, sI 102 v19, e29_61 w, e29_72, e29_73], [e29_3 g, e29_7, e29_4 ret23v v19, e29_23 seen, e29_9 ret23v v19, e29_0 ret23v, e29_1 ret23v, e29_2 ret23v]⟩ : St)) (fun s => VC29_k15 g w K ret23v v19 seen X5 s) (fun out h => ?_) (fun rest15 => ?_)
      ·have h : VC29_k15 g w K ret23v v19 seen X5 out := h
       unfold VC29_k15 at h
       refine thenQ_n ?_
       refine sr ?_
       refine rq 3 (ob := (Ts 3 True)) (st' := (⟨57, [s1 4 (.pW out), sB 5 true, e29_45, e29_79, e29_80, e29_49, e29_81, e29_20 ret23v, e29_34 ret23v, sI 102 v19, e29_61 w, e29_72, e29_73], [e29_3 g, e29_7, e29_4 ret23v v19, e29_23 seen, e29_9 ret23v v19, e29_0 ret23v, e29_1 ret23v, e29_2 ret23v]⟩ : St)) (by kernel_rfl) (tsI 3 trivial) ?_
       refine nn ?_
       refine aw_ret ?_
       exact rest14 (out, true) h
      ·refine aw_block ?_
       refine aw_loop (σ := Int × Int) (fun s => (⟨57, [e29_40, s1 6 (.pW s.1), e29_33 ret23v v19, e29_27 ret23v v19, sI 11 s.2, e29_45, e29_79, e29_80, e29_49, e29_81, e29_20 ret23v, e29_34 ret23v, sI 102 v19, e29_61 w, e29_72, e29_73], [e29_3 g, e29_7, e29_4 ret23v v19, e29_23 seen, e29_9 ret23v v19, e29_0 ret23v, e29_1 ret23v, e29_2 ret23v]⟩ : St)) (fun s X => VC29_l6 g w K ret23v v19 seen X5 s.1 s.2 X) (s0 := ((0 : Int), (0 : Int))) (fun s X6 h => ?_) h
       obtain ⟨out, v11⟩ := s
       have h : VC29_l6 g w K ret23v v19 seen X5 out v11 X6 := h
       unfold VC29_l6 at h
       refine sr ?_
       refine rq 1 (ob := (Ts 1 True)) (st' := (⟨57, [e29_40, s1 6 (.pW out), e29_33 ret23v v19, e29_27 ret23v v19, sI 11 v11, sB 12 (decide (v11 < (((ret23v.2.2.2.1.getD (v19).toNat ((0 : Int), ([] : LI))).2).length : Int))), e29_45, e29_79, e29_80, e29_49, e29_81, e29_20 ret23v, e29_34 ret23v, sI 102 v19, e29_61 w, e29_72, e29_73], [e29_3 g, e29_7, e29_4 ret23v v19, e29_23 seen, e29_9 ret23v v19, e29_0 ret23v, e29_1 ret23v, e29_2 ret23v]⟩ : St)) (by kernel_rfl) (tsI 1 trivial) ?_
       refine nn ?_
       refine aw_seq ?_
       refine aw_cond (b := (decide (v11 < (((ret23v.2.2.2.1.getD (v19).toNat ((0 : Int), ([] : LI))).2).length : Int)))) (by kernel_rfl) (fun hb => ?_) (fun hb => ?_)
       ·have h := h.1 hb
        refine aw_skip ?_
        refine thenQ_n ?_
        refine aw_seq ?_
        refine aw_block ?_
        refine sr ?_
        obtain ⟨o1, h⟩ := h
        refine rq 3 (ob := (inIdx v11 ((ret23v.2.2.2.1.getD (v19).toNat ((0 : Int), ([] : LI))).2).length ∧ Ts 2 True)) (st' := (⟨57, [e29_40, s1 6 (.pW out), e29_59 ret23v v19 v11, e29_33 ret23v v19, e29_27 ret23v v19, sI 11 v11, e29_45, e29_79, e29_80, e29_49, e29_81, e29_20 ret23v, e29_34 ret23v, sI 102 v19, e29_61 w, e29_72, e29_73], [e29_3 g, e29_7, e29_4 ret23v v19, e29_23 seen, e29_9 ret23v v19, e29_0 ret23v, e29_1 ret23v, e29_2 ret23v]⟩ : St)) (by kernel_rfl) (⟨o1, tsI 2 trivial⟩) ?_
        refine nn ?_
        refine aw_seq ?_
        refine sr ?_
        refine rq 7 (ob := (Ts 7 True)) (st' := (⟨57, [e29_40, s1 6 (.pW out), e29_59 ret23v v19 v11, e29_33 ret23v v19, e29_27 ret23v v19, sI 11 v11, sB 21 (decide ((((ret23v.2.2.2.1.getD (v19).toNat ((0 : Int), ([] : LI))).2).getD (v11).toNat (0 : Int)) < ret23v.1)), e29_45, e29_79, e29_80, e29_49, e29_81, e29_20 ret23v, e29_34 ret23v, sI 102 v19, e29_61 w, e29_72, e29_73], [e29_3 g, e29_7, e29_4 ret23v v19, e29_23 seen, e29_9 ret23v v19, e29_0 ret23v, e29_1 ret23v, e29_2 ret23v]⟩ : St)) (by kernel_rfl) (tsI 7 trivial) ?_
        refine nn ?_
        refine aw_cond (b := (decide ((((ret23v.2.2.2.1.getD (v19).toNat ((0 : Int), ([] : LI))).2).getD (v11).toNat (0 : Int)) < ret23v.1))) (by kernel_rfl) (fun hb => ?_) (fun hb => ?_)
        ·have h := h.1 hb
         refine sr ?_
         obtain ⟨o1, h⟩ := h
         refine rq 6 (ob := (Ts 2 (0 ≤ (((ret23v.2.2.2.1.getD (v19).toNat ((0 : Int), ([] : LI))).2).getD (v11).toNat (0 : Int)) ∧ Ts 3 True))) (st' := (⟨57, [s1 4 (.pW (bOr .u32 out (bShl .u32 (1 : Int) (((ret23v.2.2.2.1.getD (v19).toNat ((0 : Int), ([] : LI))).2).getD (v11).toNat (0 : Int))))), sB 5 false, e29_45, e29_79, e29_80, e29_49, e29_81, e29_20 ret23v, e29_34 ret23v, sI 102 v19, e29_61 w, e29_72, e29_73], [e29_3 g, e29_7, e29_4 ret23v v19, e29_23 seen, e29_9 ret23v v19, e29_0 ret23v, e29_1 ret23v, e29_2 ret23v]⟩ : St)) (by kernel_rfl) (tsI 2 ⟨o1, tsI 3 trivial⟩) ?_
         refine nn ?_
         refine aw_ret ?_
         refine thenQ_r ?_
         refine blockQ_r ?_
         refine thenQ_r ?_
         refine thenQ_r ?_
         refine blockQ_r ?_
         refine thenQ_r ?_
         exact rest14 ((bOr .u32 out (bShl .u32 (1 : Int) (((ret23v.2.2.2.1.getD (v19).toNat ((0 : Int), ([] : LI))).2).getD (v11).toNat (0 : Int)))), false) h
        ·have h := h.2 hb
         refine aw_skip ?_
         refine thenQ_n ?_
         refine aw_seq ?_
         refine awd_begin [] (by kernel_rfl) ?_
         obtain ⟨o1, o2, h⟩ := h
         refine drq (by kernel_rfl) [0, 1, 2, 3, 4, 5, 6, 7, 8, 9, 10, 11, 12, 13, 14, 15] (ob := (Ts 11 (InR ((((ret23v.2.2.2.1.getD (v19).toNat ((0 : Int), ([] : LI))).2).getD (v11).toNat (0 : Int)) - ret23v.1) ∧ inIdx ((((ret23v.2.2.2.1.getD (v19).toNat ((0 : Int), ([] : LI))).2).getD (v11).toNat (0 : Int)) - ret23v.1) ret23v.2.2.2.2.2.1.length ∧ Ts 3 True))) (done' := [15, 14, 13, 12, 11, 10, 9, 8, 7, 6, 5, 4, 3, 2, 1, 0]) (st' := (⟨57, [e29_40, s1 6 (.pW (bOr .u32 out (ret23v.2.2.2.2.2.1.getD ((((((ret23v.2.2.2.1.getD (v19).toNat ((0 : Int), ([] : LI))).2).getD (v11).toNat (0 : Int)) - ret23v.1)).toNat) (0 : Int)))), e29_59 ret23v v19 v11, e29_33 ret23v v19, e29_27 ret23v v19, sI 11 v11, e29_45, e29_79, e29_80, e29_49, e29_81, e29_20 ret23v, e29_34 ret23v, sI 102 v19, e29_61 w, e29_72, e29_73], [e29_3 g, e29_7, e29_4 ret23v v19, e29_23 seen, e29_9 ret23v v19, e29_0 ret23v, e29_1 ret23v, e29_2 ret23v]⟩ : St)) (by kernel_rfl) (tsI 11 (⟨o1, ⟨o2, tsI 3 trivial⟩⟩)) ?_
         refine awd_done (by kernel_rfl) ?_
         refine thenQ_n ?_
         refine aw_seq ?_
         refine awd_begin [] (by kernel_rfl) ?_
         obtain ⟨o1, h⟩ := h
         refine drq (by kernel_rfl) [0, 1, 2, 3, 4, 5, 6, 7, 8, 9, 10] (ob := (Ts 10 (InR ((((ret23v.2.2.2.1.getD (v19).toNat ((0 : Int), ([] : LI))).2).getD (v11).toNat (0 : Int)) - ret23v.1) ∧ True))) (done' := [10, 9, 8, 7, 6, 5, 4, 3, 2, 1, 0]) (st' := (⟨57, [e29_40, s1 6 (.pW (bOr .u32 out (ret23v.2.2.2.2.2.1.getD ((((((ret23v.2.2.2.1.getD (v19).toNat ((0 : Int), ([] : LI))).2).getD (v11).toNat (0 : Int)) - ret23v.1)).toNat) (0 : Int)))), e29_33 ret23v v19, e29_27 ret23v v19, sI 11 v11, s1 44 (.pW ret23v.2.2.2.2.1), sI 51 ((((ret23v.2.2.2.1.getD (v19).toNat ((0 : Int), ([] : LI))).2).getD (v11).toNat (0 : Int)) - ret23v.1), e29_45, e29_79, e29_80, e29_49, e29_81, e29_20 ret23v, e29_34 ret23v, sI 102 v19, e29_61 w, e29_72, e29_73], [e29_3 g, e29_7, e29_4 ret23v v19, e29_23 seen, e29_9 ret23v v19, e29_0 ret23v, e29_1 ret23v, e29_2 ret23v]⟩ : St)) (by kernel_rfl) (tsI 10 ⟨o1, trivial⟩) ?_
         refine awd_one (i := 11) (by kernel_rfl) ?_
         refine dcq (d := 52) [.d (.int .u32), .d (.int .i64)] (fun ret52v => (⟨57, [e29_40, s1 6 (.pW (bOr .u32 out (ret23v.2.2.2.2.2.1.getD ((((((ret23v.2.2.2.1.getD (v19).toNat ((0 : Int), ([] : LI))).2).getD (v11).toNat (0 : Int)) - ret23v.1)).toNat) (0 : Int)))), e29_33 ret23v v19, e29_27 ret23v v19, sI 11 v11, sB 52 ret52v, e29_45, e29_79, e29_80, e29_49, e29_81, e29_20 ret23v, e29_34 ret23v, sI 102 v19, e29_61 w, e29_72, e29_73], [e29_3 g, e29_7, e29_4 ret23v v19, e29_23 seen, e29_9 ret23v v19, e29_0 ret23v, e29_1 ret23v, e29_2 ret23v]⟩ : St)) rfl (by kernel_rfl) Try.call47 (fun _ => by kernel_rfl) (link47 ret23v.2.2.2.2.1 ((((ret23v.2.2.2.1.getD (v19).toNat ((0 : Int), ([] : LI))).2).getD (v11).toNat (0 : Int)) - ret23v.1) _ h) (fun ret52v h => ?_)
         refine drq (by kernel_rfl) [12] (ob := (Ts 1 True)) (done' := [12, 11, 10, 9, 8, 7, 6, 5, 4, 3, 2, 1, 0]) (st' := (⟨57, [e29_40, s1 6 (.pW (bOr .u32 out (ret23v.2.2.2.2.2.1.getD ((((((ret23v.2.2.2.1.getD (v19).toNat ((0 : Int), ([] : LI))).2).getD (v11).toNat (0 : Int)) - ret23v.1)).toNat) (0 : Int)))), e29_33 ret23v v19, e29_27 ret23v v19, sI 11 v11, sB 53 (!ret52v), e29_45, e29_79, e29_80, e29_49, e29_81, e29_20 ret23v, e29_34 ret23v, sI 102 v19, e29_61 w, e29_72, e29_73], [e29_3 g, e29_7, e29_4 ret23v v19, e29_23 seen, e29_9 ret23v v19, e29_0 ret23v, e29_1 ret23v, e29_2 ret23v]⟩ : St)) (by kernel_rfl) (tsI 1 trivial) ?_
         refine awd_done (by kernel_rfl) ?_
         refine thenQ_n ?_
         refine aw_cond (b := (!ret52v)) (by kernel_rfl) (fun hb => ?_) (fun hb => ?_)
         ·have h := h.1 hb
          refine sr ?_
          refine rq 3 (ob := (Ts 3 True)) (st' := (⟨57, [s1 4 (.pW (bOr .u32 out (ret23v.2.2.2.2.2.1.getD ((((((ret23v.2.2.2.1.getD (v19).toNat ((0 : Int), ([] : LI))).2).getD (v11).toNat (0 : Int)) - ret23v.1)).toNat) (0 : Int)))), sB 5 false, e29_45, e29_79, e29_80, e29_49, e29_81, e29_20 ret23v, e29_34 ret23v, sI 102 v19, e29_61 w, e29_72, e29_73], [e29_3 g, e29_7, e29_4 ret23v v19, e29_23 seen, e29_9 ret23v v19, e29_0 ret23v, e29_1 ret23v, e29_2 ret23v]⟩ : St)) (by kernel_rfl) (tsI 3 trivial) ?_
          refine nn ?_
          refine aw_ret ?_
          refine blockQ_r ?_
          refine thenQ_r ?_
          refine thenQ_r ?_
          refine blockQ_r ?_
          refine thenQ_r ?_
          exact rest14 ((bOr .u32 out (ret23v.2.2.2.2.2.1.getD ((((((ret23v.2.2.2.1.getD (v19).toNat ((0 : Int), ([] : LI))).2).getD (v11).toNat (0 : Int)) - ret23v.1)).toNat) (0 : Int))), false) h
         ·have h := h.2 hb
          refine aw_skip ?_
          refine blockQ_n ?_
          refine thenQ_n ?_
          refine aw_region ?_
          obtain ⟨o1, h⟩ := h
          refine rq 2 (ob := (InR (v11 + (1 : Int)) ∧ Ts 1 True)) (st' := (⟨57, [e29_40, s1 6 (.pW (bOr .u32 out (ret23v.2.2.2.2.2.1.getD ((((((ret23v.2.2.2.1.getD (v19).toNat ((0 : Int), ([] : LI))).2).getD (v11).toNat (0 : Int)) - ret23v.1)).toNat) (0 : Int)))), e29_33 ret23v v19, e29_27 ret23v v19, sI 11 (v11 + (1 : Int)), e29_45, e29_79, e29_80, e29_49, e29_81, e29_20 ret23v, e29_34 ret23v, sI 102 v19, e29_61 w, e29_72, e29_73], [e29_3 g, e29_7, e29_4 ret23v v19, e29_23 seen, e29_9 ret23v v19, e29_0 ret23v, e29_1 ret23v, e29_2 ret23v]⟩ : St)) (by kernel_rfl) (⟨o1, tsI 1 trivial⟩) ?_
          refine awl_nil ?_
          exact thenQ_n ⟨((bOr .u32 out (ret23v.2.2.2.2.2.1.getD ((((((ret23v.2.2.2.1.getD (v19).toNat ((0 : Int), ([] : LI))).2).getD (v11).toNat (0 : Int)) - ret23v.1)).toNat) (0 : Int))), (v11 + (1 : Int))), rfl, h⟩
       ·have h := h.2 hb
        refine cpr (st' := (⟨57, [s1 6 (.pW out), e29_45, e29_79, e29_80, e29_49, e29_81, e29_20 ret23v, e29_34 ret23v, sI 102 v19, e29_61 w, e29_72, e29_73], [e29_3 g, e29_7, e29_4 ret23v v19, e29_23 seen, e29_9 ret23v v19, e29_0 ret23v, e29_1 ret23v, e29_2 ret23v]⟩ : St)) (by kernel_rfl) ?_
        refine aw_exit ?_
        refine thenQ_x ?_
        refine thenQ_x ?_
        refine blockQ_hit ?_
        exact rest15 out h
    ·have h := h.2 hb
     refine cpr (st' := (⟨43, [e29_62 w, e29_74, e29_75], [e29_3 g, e29_7, e29_0 ret23v, e29_1 ret23v, e29_2 ret23v]⟩ : St)) (by kernel_rfl) ?_
     refine aw_exit ?_
     refine thenQ_x ?_
     refine thenQ_x ?_
     refine blockQ_hit ?_
     exact rest12 () h

abbrev e7_0 (g : (Int × (Int × (Int × (List (Int × LI)))))) : Nat × Path × Con := hB 2 [.pI g.1, .pI g.2.1, .pI g.2.2.1, .p (.sl (.pr (.int .i64) (.sl (.int .i64)))) g.2.2.2]
abbrev e7_1 (w : LI) : Nat × Path × AV := s1 1 (.pS w)
-- coppicer/coppicerkeep.AheadOne
def VC7 (g : (Int × (Int × (Int × (List (Int × LI)))))) (w : LI) (K : Bool → Prop) : Prop :=
  VC26 g (fun (ret13v : Bool × Int) => VC27 g w (fun (ret19v : Int × Int) => VC21 g w (fun (ret24v : Bool) => (((!ret24v) = true → K (!decide (ret19v.2 = (0 : Int)))) ∧ ((!ret24v) = false → (((!decide (ret13v.2 = (0 : Int))) = true → K false) ∧ ((!decide (ret13v.2 = (0 : Int))) = false → (((!decide (ret19v.2 = (0 : Int))) = true → gcall (α := Bool) (decide (ret19v.2 = (3 : Int))) (VC28 g) false (fun (ret36v : Bool) => K (((decide (ret19v.2 = (3 : Int))) && (!ret36v)) || ((decide (ret19v.2 = (1 : Int))) && (!ret13v.1))))) ∧ ((!decide (ret19v.2 = (0 : Int))) = false → VC29 g w (fun (ret50v : LI × Int) => K ((((!ret13v.1) || (decide (ret19v.1 ≤ (1 : Int)))) && ((decide (ret50v.2 = (0 : Int))) == (ret13v.1 && (decide ((0 : Int) < ret19v.1))))) && ((decide (ret50v.2 = (0 : Int))) || (decide ((ret50v.1.length : Int) = (0 : Int)))))))))))))))

set_option maxHeartbeats 4000000 in
theorem link7 (g : (Int × (Int × (Int × (List (Int × LI)))))) (w : LI) (K : Bool → Prop) (h : VC7 g w K) : ACalls Try.prog 7 [toV1 (.pr (.int .i64) (.pr (.int .i64) (.pr (.int .i64) (.sl (.pr (.int .i64) (.sl (.int .i64))))))) g, toV1 (.sl (.int .i64)) w] (fun res => ∃ y, res = (fun y => [toV1 .bool y]) y ∧ K y) := by
 refine acalls_of_aw [.bool] [.t 4] Try.func7 rfl rfl rfl ?_
 unfold VC7 at h
 refine sr ?_
 refine rq 2 (ob := (Ts 2 True)) (st' := (⟨78, [e7_1 w, sp 2 2], [e7_0 g]⟩ : St)) (by kernel_rfl) (tsI 2 trivial) ?_
 refine nsr ?_
 refine rq 1 (ob := (Ts 1 True)) (st' := (⟨78, [e7_1 w, sp 2 2, sA 12 [.pI g.1, .pI g.2.1, .pI g.2.2.1, .p (.sl (.pr (.int .i64) (.sl (.int .i64)))) g.2.2.2]], [e7_0 g]⟩ : St)) (by kernel_rfl) (tsI 1 trivial) ?_
 refine lcq (d := 13) [.d (.pr (.int .i64) (.pr (.int .i64) (.pr (.int .i64) (.sl (.pr (.int .i64) (.sl (.int .i64)))))))] (fun ret13v => (⟨78, [e7_1 w, sp 2 2, (13, [], .tup [.c (.pB ret13v.1), .c (.pI ret13v.2)])], [e7_0 g]⟩ : St)) (by kernel_rfl) Try.call26 (fun _ => by kernel_rfl) (link26 g _ h) (fun ret13v h => ?_)
 refine rq 5 (ob := (Ts 5 True)) (st' := (⟨78, [e7_1 w, sp 2 2, sB 5 ret13v.1, sI 6 ret13v.2], [e7_0 g]⟩ : St)) (by kernel_rfl) (tsI 5 trivial) ?_
 refine nsr ?_
 refine rq 2 (ob := (Ts 2 True)) (st' := (⟨78, [e7_1 w, sp 2 2, sB 5 ret13v.1, sI 6 ret13v.2, sA 17 [.pI g.1, .pI g.2.1, .pI g.2.2.1, .p (.sl (.pr (.int .i64) (.sl (.int .i64)))) g.2.2.2], s1 18 (.pS w)], [e7_0 g]⟩ : St)) (by kernel_rfl) (tsI 2 trivial) ?_
 refine lcq (d := 19) [.d (.pr (.int .i64) (.pr (.int .i64) (.pr (.int .i64) (.sl (.pr (.int .i64) (.sl (.int .i64))))))), .d (.sl (.int .i64))] (fun ret19v => (⟨78, [e7_1 w, sp 2 2, sB 5 ret13v.1, sI 6 ret13v.2, (19, [], .tup [.c (.pI ret19v.1), .c (.pI ret19v.2)])], [e7_0 g]⟩ : St)) (by kernel_rfl) Try.call27 (fun _ => by kernel_rfl) (link27 g w _ h) (fun ret19v h => ?_)
 refine rq 5 (ob := (Ts 5 True)) (st' := (⟨78, [e7_1 w, sp 2 2, sB 5 ret13v.1, sI 6 ret13v.2, sI 7 ret19v.1, sI 8 ret19v.2], [e7_0 g]⟩ : St)) (by kernel_rfl) (tsI 5 trivial) ?_
 refine nn ?_
 refine aw_seq ?_
 refine sr ?_
 refine rq 2 (ob := (Ts 2 True)) (st' := (⟨78, [e7_1 w, sp 2 2, sB 5 ret13v.1, sI 6 ret13v.2, sI 7 ret19v.1, sI 8 ret19v.2, sA 22 [.pI g.1, .pI g.2.1, .pI g.2.2.1, .p (.sl (.pr (.int .i64) (.sl (.int .i64)))) g.2.2.2], s1 23 (.pS w)], [e7_0 g]⟩ : St)) (by kernel_rfl) (tsI 2 trivial) ?_
 refine lcq (d := 24) [.d (.pr (.int .i64) (.pr (.int .i64) (.pr (.int .i64) (.sl (.pr (.int .i64) (.sl (.int .i64))))))), .d (.sl (.int .i64))] (fun ret24v => (⟨78, [e7_1 w, sp 2 2, sB 5 ret13v.1, sI 6 ret13v.2, sI 7 ret19v.1, sI 8 ret19v.2, sB 24 ret24v], [e7_0 g]⟩ : St)) (by kernel_rfl) Try.call21 (fun _ => by kernel_rfl) (link21 g w _ h) (fun ret24v h => ?_)
 refine rq 1 (ob := (Ts 1 True)) (st' := (⟨78, [e7_1 w, sp 2 2, sB 5 ret13v.1, sI 6 ret13v.2, sI 7 ret19v.1, sI 8 ret19v.2, sB 25 (!ret24v)], [e7_0 g]⟩ : St)) (by kernel_rfl) (tsI 1 trivial) ?_
 refine nn ?_
 refine aw_cond (b := (!ret24v)) (by kernel_rfl) (fun hb => ?_) (fun hb => ?_)
 ·have h := h.1 hb
  refine sr ?_
  refine rq 3 (ob := (Ts 3 True)) (st' := (⟨78, [sB 4 (!decide (ret19v.2 = (0 : Int)))], []⟩ : St)) (by kernel_rfl) (tsI 3 trivial) ?_
  refine nn ?_
  refine aw_ret ?_
  refine thenQ_r ?_
  exact retQ_r (ob := Ts 1 True) _ (by kernel_rfl) (tsI 1 trivial) h
 ·have h := h.2 hb
  refine aw_skip ?_
  refine thenQ_n ?_
  refine aw_seq ?_
  refine sr ?_
  refine rq 2 (ob := (Ts 2 True)) (st' := (⟨78, [e7_1 w, sp 2 2, sB 5 ret13v.1, sI 7 ret19v.1, sI 8 ret19v.2, sB 29 (!decide (ret13v.2 = (0 : Int)))], [e7_0 g]⟩ : St)) (by kernel_rfl) (tsI 2 trivial) ?_
  refine nn ?_
  refine aw_cond (b := (!decide (ret13v.2 = (0 : Int)))) (by kernel_rfl) (fun hb => ?_) (fun hb => ?_)
  ·have h := h.1 hb
   refine sr ?_
   refine rq 1 (ob := (Ts 1 True)) (st' := (⟨78, [sB 4 false], []⟩ : St)) (by kernel_rfl) (tsI 1 trivial) ?_
   refine nn ?_
   refine aw_ret ?_
   refine thenQ_r ?_
   exact retQ_r (ob := Ts 1 True) _ (by kernel_rfl) (tsI 1 trivial) h
  ·have h := h.2 hb
   refine aw_skip ?_
   refine thenQ_n ?_
   refine aw_seq ?_
   refine sr ?_
   refine rq 2 (ob := (Ts 2 True)) (st' := (⟨78, [e7_1 w, sp 2 2, sB 5 ret13v.1, sI 7 ret19v.1, sI 8 ret19v.2, sB 31 (!decide (ret19v.2 = (0 : Int)))], [e7_0 g]⟩ : St)) (by kernel_rfl) (tsI 2 trivial) ?_
   refine nn ?_
   refine aw_cond (b := (!decide (ret19v.2 = (0 : Int)))) (by kernel_rfl) (fun hb => ?_) (fun hb => ?_)
   ·have h := h.1 hb
    refine sr ?_
    refine rq 4 (ob := (Ts 3 (((decide (ret19v.2 = (3 : Int))) = true → True) ∧ True))) (st' := (⟨78, [sB 5 ret13v.1, sI 8 ret19v.2, sB 34 (decide (ret19v.2 = (3 : Int))), (35, [(34, true)], .v (.agg [.pI g.1, .pI g.2.1, .pI g.2.2.1, .p (.sl (.pr (.int .i64) (.sl (.int .i64)))) g.2.2.2]))], []⟩ : St)) (by kernel_rfl) (tsI 3 ⟨(fun _ => trivial), trivial⟩) ?_
    refine awl_callk (p := [(34, true)]) (l := [toV1 (.pr (.int .i64) (.pr (.int .i64) (.pr (.int .i64) (.sl (.pr (.int .i64) (.sl (.int .i64))))))) g]) (cl := []) false [.d (.pr (.int .i64) (.pr (.int .i64) (.pr (.int .i64) (.sl (.pr (.int .i64) (.sl (.int .i64)))))))] [5, 8, 34, 36] [] (fun (ret36v : Bool) => K (((decide (ret19v.2 = (3 : Int))) && (!ret36v)) || ((decide (ret19v.2 = (1 : Int))) && (!ret13v.1)))) (fun ret36v => [toV1 .bool ret36v]) (fun ret36v => (⟨78, [sB 5 ret13v.1, sI 8 ret19v.2, sB 34 (decide (ret19v.2 = (3 : Int))), (36, [(34, true)], .v (.c (.pB ret36v)))], []⟩ : St)) (by kernel_rfl) rfl (by kernel_rfl) rfl (by kernel_rfl) Try.call28 (by kernel_rfl) (fun ret36v => by kernel_rfl) (fun e => by cases e) (fun hg => link28 g _ (by have := gcall_T h (show (decide (ret19v.2 = (3 : Int))) = true from hg); exact this)) (fun hg => ⟨false, by have := gcall_F h (show (decide (ret19v.2 = (3 : Int))) = false from hg); exact this⟩) (fun ret36v h => ?_)
    refine rq 11 (ob := (((decide (ret19v.2 = (3 : Int))) = true → True) ∧ Ts 2 (Ti 3 (((decide (ret19v.2 = (3 : Int))) && (!ret36v)) = false → True) ((((decide (ret19v.2 = (3 : Int))) && (!ret36v)) = false → ((decide (ret19v.2 = (1 : Int))) = true → True)) ∧ (((decide (ret19v.2 = (3 : Int))) && (!ret36v)) = false → ((decide (ret19v.2 = (1 : Int))) = true → True)) ∧ (((decide (ret19v.2 = (3 : Int))) && (!ret36v)) = false → True) ∧ Ts 2 True)))) (st' := (⟨78, [sB 4 (((decide (ret19v.2 = (3 : Int))) && (!ret36v)) || ((decide (ret19v.2 = (1 : Int))) && (!ret13v.1)))], []⟩ : St)) (by kernel_rfl) (⟨(fun _ => trivial), tsI 2 (tiI 3 (fun _ => trivial) (tiI 2 (fun _ _ => trivial) ⟨(fun _ => trivial), tsI 2 trivial⟩))⟩) ?_
    refine nn ?_
    refine aw_ret ?_
    refine thenQ_r ?_
    exact retQ_r (ob := Ts 1 True) _ (by kernel_rfl) (tsI 1 trivial) h
   ·have h := h.2 hb
    refine aw_skip ?_
    refine thenQ_n ?_
    refine sr ?_
    refine rq 2 (ob := (Ts 2 True)) (st' := (⟨78, [sB 5 ret13v.1, sI 7 ret19v.1, sA 48 [.pI g.1, .pI g.2.1, .pI g.2.2.1, .p (.sl (.pr (.int .i64) (.sl (.int .i64)))) g.2.2.2], s1 49 (.pS w)], []⟩ : St)) (by kernel_rfl) (tsI 2 trivial) ?_
    refine lcq (d := 50) [.d (.pr (.int .i64) (.pr (.int .i64) (.pr (.int .i64) (.sl (.pr (.int .i64) (.sl (.int .i64))))))), .d (.sl (.int .i64))] (fun ret50v => (⟨78, [sB 5 ret13v.1, sI 7 ret19v.1, (50, [], .tup [.c (.pS ret50v.1), .c (.pI ret50v.2)])], []⟩ : St)) (by kernel_rfl) Try.call29 (fun _ => by kernel_rfl) (link29 g w _ h) (fun ret50v h => ?_)
    refine rq 5 (ob := (Ts 5 True)) (st' := (⟨78, [sB 5 ret13v.1, sI 7 ret19v.1, s1 9 (.pS ret50v.1), sI 10 ret50v.2], []⟩ : St)) (by kernel_rfl) (tsI 5 trivial) ?_
    refine nsr ?_
    refine rq 26 (ob := (Ts 3 (Ti 2 ((!ret13v.1) = false → True) (Ts 2 (Ti 4 (((!ret13v.1) || (decide (ret19v.1 ≤ (1 : Int)))) = true → True) ((((!ret13v.1) || (decide (ret19v.1 ≤ (1 : Int)))) = true → (ret13v.1 = true → True)) ∧ (((!ret13v.1) || (decide (ret19v.1 ≤ (1 : Int)))) = true → (ret13v.1 = true → True)) ∧ Ti 2 (((!ret13v.1) || (decide (ret19v.1 ≤ (1 : Int)))) = true → True) (Ts 2 (Ti 3 ((((!ret13v.1) || (decide (ret19v.1 ≤ (1 : Int)))) && ((decide (ret50v.2 = (0 : Int))) == (ret13v.1 && (decide ((0 : Int) < ret19v.1))))) = true → True) (((((!ret13v.1) || (decide (ret19v.1 ≤ (1 : Int)))) && ((decide (ret50v.2 = (0 : Int))) == (ret13v.1 && (decide ((0 : Int) < ret19v.1))))) = true → ((decide (ret50v.2 = (0 : Int))) = false → True)) ∧ ((((!ret13v.1) || (decide (ret19v.1 ≤ (1 : Int)))) && ((decide (ret50v.2 = (0 : Int))) == (ret13v.1 && (decide ((0 : Int) < ret19v.1))))) = true → ((decide (ret50v.2 = (0 : Int))) = false → True)) ∧ ((((!ret13v.1) || (decide (ret19v.1 ≤ (1 : Int)))) && ((decide (ret50v.2 = (0 : Int))) == (ret13v.1 && (decide ((0 : Int) < ret19v.1))))) = true → ((decide (ret50v.2 = (0 : Int))) = false → True)) ∧ ((((!ret13v.1) || (decide (ret19v.1 ≤ (1 : Int)))) && ((decide (ret50v.2 = (0 : Int))) == (ret13v.1 && (decide ((0 : Int) < ret19v.1))))) = true → True) ∧ Ts 2 True))))))))) (st' := (⟨78, [sB 4 ((((!ret13v.1) || (decide (ret19v.1 ≤ (1 : Int)))) && ((decide (ret50v.2 = (0 : Int))) == (ret13v.1 && (decide ((0 : Int) < ret19v.1))))) && ((decide (ret50v.2 = (0 : Int))) || (decide ((ret50v.1.length : Int) = (0 : Int)))))], []⟩ : St)) (by kernel_rfl) (tsI 3 (tiI 2 (fun _ => trivial) (tsI 2 (tiI 4 (fun _ => trivial) (tiI 2 (fun _ _ => trivial) (tiI 2 (fun _ => trivial) (tsI 2 (tiI 3 (fun _ => trivial) (tiI 3 (fun _ _ => trivial) ⟨(fun _ => trivial), tsI 2 trivial⟩))))))))) ?_
    refine nn ?_
    refine aw_ret ?_
    exact retQ_r (ob := Ts 1 True) _ (by kernel_rfl) (tsI 1 trivial) h

end Dec
