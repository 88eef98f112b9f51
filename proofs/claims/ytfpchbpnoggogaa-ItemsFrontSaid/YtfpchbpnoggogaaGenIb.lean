/-
Printed by dec2.py: of each function its plain demand, and that the demand gives the contract.
-/
import Derived.Test.YtfpchbpnoggogaaGenIa
set_option linter.unusedSimpArgs false
set_option linter.unusedVariables false
set_option maxRecDepth 100000
namespace Dec
open Go Go.RowKit Go.Proofs
abbrev e31_0 (g : TG) : Nat × Path × Con := hB 30101 [.pI g.1, .pI g.2.1, .pI g.2.2.1, .p (.sl tR) g.2.2.2, .own 30100, .own 30102]
abbrev e31_1 (l301004 : (List LN)) (v45 : Int) (i : Int) : Nat × Path × Con := hB 31000 [.pI (((l301004.getD ((v45).toNat) ([] : LN)).getD ((i).toNat) z3).1), .pI (((l301004.getD ((v45).toNat) ([] : LN)).getD ((i).toNat) z3).2.1), .pI (((l301004.getD ((v45).toNat) ([] : LN)).getD ((i).toNat) z3).2.2)]
abbrev e31_2 (l301025 : (List (List ((Int × (Int × Int)) × Int)))) (v45 : Int) (l301005 : (List LN)) (l301004 : (List LN)) (i : Int) (i2 : Int) : Nat × Path × Con := (30102, [], .deep 141 0 (.mp t3 tI) (l301025.set ((v45).toNat) (mset (l301025.getD ((v45).toNat) ([] : (List ((Int × (Int × Int)) × Int)))) (((l301005.getD ((((l301004.getD ((v45).toNat) ([] : LN)).getD ((i).toNat) z3).2.2).toNat) ([] : LN)).getD ((i2).toNat) z3).1, ((((l301005.getD ((((l301004.getD ((v45).toNat) ([] : LN)).getD ((i).toNat) z3).2.2).toNat) ([] : LN)).getD ((i2).toNat) z3).2.1 + (1 : Int)), ((l301005.getD ((((l301004.getD ((v45).toNat) ([] : LN)).getD ((i).toNat) z3).2.2).toNat) ([] : LN)).getD ((i2).toNat) z3).2.2)) ((l301005.getD ((v45).toNat) ([] : LN)).length : Int))) [])
abbrev e31_3 (l301005 : (List LN)) (l301004 : (List LN)) (v45 : Int) (i : Int) (i2 : Int) : Nat × Path × Con := hB 5 [.pI (((l301005.getD ((((l301004.getD ((v45).toNat) ([] : LN)).getD ((i).toNat) z3).2.2).toNat) ([] : LN)).getD ((i2).toNat) z3).1), .pI (((l301005.getD ((((l301004.getD ((v45).toNat) ([] : LN)).getD ((i).toNat) z3).2.2).toNat) ([] : LN)).getD ((i2).toNat) z3).2.1 + (1 : Int)), .pI (((l301005.getD ((((l301004.getD ((v45).toNat) ([] : LN)).getD ((i).toNat) z3).2.2).toNat) ([] : LN)).getD ((i2).toNat) z3).2.2)]
abbrev e31_4 (l301024 : (List (List ((Int × (Int × Int)) × Int)))) (v45 : Int) (l301003 : (List LN)) (v63 : Int) (l301004 : (List LN)) : Nat × Path × Con := (30102, [], .deep 141 0 (.mp t3 tI) (l301024.set (((v45 + (1 : Int))).toNat) (mset (l301024.getD (((v45 + (1 : Int))).toNat) ([] : (List ((Int × (Int × Int)) × Int)))) (((l301003.getD ((v45).toNat) ([] : LN)).getD ((v63).toNat) z3).1, ((((l301003.getD ((v45).toNat) ([] : LN)).getD ((v63).toNat) z3).2.1 + (1 : Int)), ((l301003.getD ((v45).toNat) ([] : LN)).getD ((v63).toNat) z3).2.2)) ((l301004.getD (((v45 + (1 : Int))).toNat) ([] : LN)).length : Int))) [])
abbrev e31_5 (l301005 : (List LN)) (l301004 : (List LN)) (v45 : Int) (i : Int) (i2 : Int) : Nat × Path × Con := hB 31001 [.pI (((l301005.getD ((((l301004.getD ((v45).toNat) ([] : LN)).getD ((i).toNat) z3).2.2).toNat) ([] : LN)).getD ((i2).toNat) z3).1), .pI (((l301005.getD ((((l301004.getD ((v45).toNat) ([] : LN)).getD ((i).toNat) z3).2.2).toNat) ([] : LN)).getD ((i2).toNat) z3).2.1), .pI (((l301005.getD ((((l301004.getD ((v45).toNat) ([] : LN)).getD ((i).toNat) z3).2.2).toNat) ([] : LN)).getD ((i2).toNat) z3).2.2)]
abbrev e31_6 (g : TG) (l301004 : (List LN)) (v45 : Int) (i : Int) : Nat × Path × AV := sI 60 (g.1 + (g.2.2.2.getD (((l301004.getD ((v45).toNat) ([] : LN)).getD ((i).toNat) z3).1).toNat ((0 : Int), ([] : LI))).1)
abbrev e31_7 (g : TG) : Nat × Path × AV := s1 66 (.p (.sl tR) g.2.2.2)
abbrev e31_8 (l301003 : (List LN)) (v45 : Int) (v63 : Int) : Nat × Path × Con := hB 5 [.pI (((l301003.getD ((v45).toNat) ([] : LN)).getD ((v63).toNat) z3).1), .pI (((l301003.getD ((v45).toNat) ([] : LN)).getD ((v63).toNat) z3).2.1 + (1 : Int)), .pI (((l301003.getD ((v45).toNat) ([] : LN)).getD ((v63).toNat) z3).2.2)]
abbrev e31_9 (l301004 : (List LN)) (v45 : Int) (i : Int) : Nat × Path × Con := hB 5 [.pI (((l301004.getD ((v45).toNat) ([] : LN)).getD ((i).toNat) z3).1), .pI (((l301004.getD ((v45).toNat) ([] : LN)).getD ((i).toNat) z3).2.1), .pI (((l301004.getD ((v45).toNat) ([] : LN)).getD ((i).toNat) z3).2.2)]
abbrev e31_10 (l30102 : (List (List ((Int × (Int × Int)) × Int)))) (v14 : Int) (l30100 : (List LN)) : Nat × Path × Con := (30102, [], .deep 141 0 (.mp t3 tI) (l30102.set (((0 : Int)).toNat) (mset (l30102.getD (((0 : Int)).toNat) ([] : (List ((Int × (Int × Int)) × Int)))) (v14, ((0 : Int), (0 : Int))) ((l30100.getD (((0 : Int)).toNat) ([] : LN)).length : Int))) [])
abbrev e31_11 (l301024 : (List (List ((Int × (Int × Int)) × Int)))) : Nat × Path × Con := (30102, [], .deep 141 0 (.mp t3 tI) l301024 [])
abbrev e31_12 (l301003 : (List LN)) (v45 : Int) : Nat × Path × Con := hA 82001 113 t3 (l301003.getD ((v45).toNat) ([] : LN))
abbrev e31_13 (l301025 : (List (List ((Int × (Int × Int)) × Int)))) (v45 : Int) (v14 : Int) (l301005 : (List LN)) : Nat × Path × Con := (30102, [], .deep 141 0 (.mp t3 tI) (l301025.set ((v45).toNat) (mset (l301025.getD ((v45).toNat) ([] : (List ((Int × (Int × Int)) × Int)))) (v14, ((0 : Int), v45)) ((l301005.getD ((v45).toNat) ([] : LN)).length : Int))) [])
abbrev e31_14 (g : TG) (l301004 : (List LN)) (v45 : Int) (i : Int) : Nat × Path × AV := sI 6 (g.1 + (g.2.2.2.getD (((l301004.getD ((v45).toNat) ([] : LN)).getD ((i).toNat) z3).1).toNat ((0 : Int), ([] : LI))).1)
abbrev e31_15 (l301004 : (List LN)) (v45 : Int) : Nat × Path × Con := (30100, [], .deep 110 113 (.sl t3) l301004 [(82000, ((v45).toNat), [.own 82001])])
abbrev e31_16 (l301025 : (List (List ((Int × (Int × Int)) × Int)))) : Nat × Path × Con := (30102, [], .deep 141 0 (.mp t3 tI) l301025 [])
abbrev e31_17 (l301003 : (List LN)) (v45 : Int) (v63 : Int) : Nat × Path × Con := hB 30400 [.pI (((l301003.getD ((v45).toNat) ([] : LN)).getD ((v63).toNat) z3).1), .pI (((l301003.getD ((v45).toNat) ([] : LN)).getD ((v63).toNat) z3).2.1), .pI (((l301003.getD ((v45).toNat) ([] : LN)).getD ((v63).toNat) z3).2.2)]
abbrev e31_18 (l301005 : (List LN)) (l301004 : (List LN)) (v45 : Int) (i : Int) (i2 : Int) : Nat × Path × AV := sA 29 [.pI (((l301005.getD ((((l301004.getD ((v45).toNat) ([] : LN)).getD ((i).toNat) z3).2.2).toNat) ([] : LN)).getD ((i2).toNat) z3).1), .pI (((l301005.getD ((((l301004.getD ((v45).toNat) ([] : LN)).getD ((i).toNat) z3).2.2).toNat) ([] : LN)).getD ((i2).toNat) z3).2.1 + (1 : Int)), .pI (((l301005.getD ((((l301004.getD ((v45).toNat) ([] : LN)).getD ((i).toNat) z3).2.2).toNat) ([] : LN)).getD ((i2).toNat) z3).2.2)]
abbrev e31_19 (l301005 : (List LN)) : Nat × Path × Con := (30100, [], .deep 110 113 (.sl t3) l301005 [])
abbrev e31_20 (l301004 : (List LN)) (v45 : Int) (i : Int) : Nat × Path × Con := hB 30700 [.pI (((l301004.getD ((v45).toNat) ([] : LN)).getD ((i).toNat) z3).1), .pI (((l301004.getD ((v45).toNat) ([] : LN)).getD ((i).toNat) z3).2.1), .pI (((l301004.getD ((v45).toNat) ([] : LN)).getD ((i).toNat) z3).2.2)]
abbrev e31_21 (g : TG) : Nat × Path × Con := hB 2 [.pI g.1, .pI g.2.1, .pI g.2.2.1, .p (.sl tR) g.2.2.2]
abbrev e31_22 (l301005 : (List LN)) (v45 : Int) (l301004 : (List LN)) (i : Int) (i2 : Int) : Nat × Path × Con := hA 52 113 t3 ((l301005.getD ((v45).toNat) ([] : LN)) ++ [(((l301005.getD ((((l301004.getD ((v45).toNat) ([] : LN)).getD ((i).toNat) z3).2.2).toNat) ([] : LN)).getD ((i2).toNat) z3).1, ((((l301005.getD ((((l301004.getD ((v45).toNat) ([] : LN)).getD ((i).toNat) z3).2.2).toNat) ([] : LN)).getD ((i2).toNat) z3).2.1 + (1 : Int)), ((l301005.getD ((((l301004.getD ((v45).toNat) ([] : LN)).getD ((i).toNat) z3).2.2).toNat) ([] : LN)).getD ((i2).toNat) z3).2.2))])
abbrev e31_23 (w : LI) : Nat × Path × Con := (15, [], .deep 110 113 (.sl t3) (List.replicate (((w.length : Int) + (1 : Int))).toNat ([] : LN)) [])
abbrev e31_24 (l301003 : (List LN)) (v45 : Int) : Nat × Path × AV := sI 116 ((l301003.getD ((v45).toNat) ([] : LN)).length : Int)
abbrev e31_25 (l301003 : (List LN)) (v45 : Int) : Nat × Path × AV := sI 132 ((l301003.getD ((v45).toNat) ([] : LN)).length : Int)
abbrev e31_26 (l301003 : (List LN)) (v45 : Int) : Nat × Path × AV := sI 88 ((l301003.getD ((v45).toNat) ([] : LN)).length : Int)
abbrev e31_27 (g : TG) : Nat × Path × AV := sI 67 (g.2.2.2.length : Int)
abbrev e31_28 (l301025 : (List (List ((Int × (Int × Int)) × Int)))) (v45 : Int) : Nat × Path × Con := (30102, [], .deep 141 0 (.mp t3 tI) l301025 [(82000, ((v45).toNat), [.own 82001])])
abbrev e31_29 (l301003 : (List LN)) (v45 : Int) : Nat × Path × AV := sI 78 ((l301003.getD ((v45).toNat) ([] : LN)).length : Int)
abbrev e31_30 (l301005 : (List LN)) (l301004 : (List LN)) (v45 : Int) (i : Int) (i2 : Int) : Nat × Path × Con := hA 51 113 t3 [(((l301005.getD ((((l301004.getD ((v45).toNat) ([] : LN)).getD ((i).toNat) z3).2.2).toNat) ([] : LN)).getD ((i2).toNat) z3).1, ((((l301005.getD ((((l301004.getD ((v45).toNat) ([] : LN)).getD ((i).toNat) z3).2.2).toNat) ([] : LN)).getD ((i2).toNat) z3).2.1 + (1 : Int)), ((l301005.getD ((((l301004.getD ((v45).toNat) ([] : LN)).getD ((i).toNat) z3).2.2).toNat) ([] : LN)).getD ((i2).toNat) z3).2.2))]
abbrev e31_31 (l301003 : (List LN)) (v45 : Int) : Nat × Path × AV := sI 4 ((l301003.getD ((v45).toNat) ([] : LN)).length : Int)
abbrev e31_32 : Nat × Path × AV := sp 0 30101
abbrev e31_33 (l301025 : (List (List ((Int × (Int × Int)) × Int)))) (v45 : Int) : Nat × Path × Con := (82001, [], .dict t3 tI (l301025.getD ((v45).toNat) ([] : (List ((Int × (Int × Int)) × Int)))))
abbrev e31_34 (l301003 : (List LN)) (v45 : Int) (v63 : Int) : Nat × Path × AV := sA 29 [.pI (((l301003.getD ((v45).toNat) ([] : LN)).getD ((v63).toNat) z3).1), .pI (((l301003.getD ((v45).toNat) ([] : LN)).getD ((v63).toNat) z3).2.1 + (1 : Int)), .pI (((l301003.getD ((v45).toNat) ([] : LN)).getD ((v63).toNat) z3).2.2)]
abbrev e31_35 (l301005 : (List LN)) (l301004 : (List LN)) (v45 : Int) (i : Int) (i2 : Int) : Nat × Path × AV := sA 50 [.pI (((l301005.getD ((((l301004.getD ((v45).toNat) ([] : LN)).getD ((i).toNat) z3).2.2).toNat) ([] : LN)).getD ((i2).toNat) z3).1), .pI (((l301005.getD ((((l301004.getD ((v45).toNat) ([] : LN)).getD ((i).toNat) z3).2.2).toNat) ([] : LN)).getD ((i2).toNat) z3).2.1 + (1 : Int)), .pI (((l301005.getD ((((l301004.getD ((v45).toNat) ([] : LN)).getD ((i).toNat) z3).2.2).toNat) ([] : LN)).getD ((i2).toNat) z3).2.2)]
abbrev e31_36 (l301004 : (List LN)) : Nat × Path × Con := (30100, [], .deep 110 113 (.sl t3) l301004 [])
abbrev e31_37 (l301005 : (List LN)) (l301004 : (List LN)) (v45 : Int) (i : Int) (i2 : Int) : Nat × Path × Con := hB 8 [.pI (((l301005.getD ((((l301004.getD ((v45).toNat) ([] : LN)).getD ((i).toNat) z3).2.2).toNat) ([] : LN)).getD ((i2).toNat) z3).1), .pI (((l301005.getD ((((l301004.getD ((v45).toNat) ([] : LN)).getD ((i).toNat) z3).2.2).toNat) ([] : LN)).getD ((i2).toNat) z3).2.1), .pI (((l301005.getD ((((l301004.getD ((v45).toNat) ([] : LN)).getD ((i).toNat) z3).2.2).toNat) ([] : LN)).getD ((i2).toNat) z3).2.2)]
abbrev e31_38 (l301005 : (List LN)) (l301004 : (List LN)) (v45 : Int) (i : Int) (i2 : Int) : Nat × Path × Con := hB 3 [.pI (((l301005.getD ((((l301004.getD ((v45).toNat) ([] : LN)).getD ((i).toNat) z3).2.2).toNat) ([] : LN)).getD ((i2).toNat) z3).1), .pI (((l301005.getD ((((l301004.getD ((v45).toNat) ([] : LN)).getD ((i).toNat) z3).2.2).toNat) ([] : LN)).getD ((i2).toNat) z3).2.1), .pI (((l301005.getD ((((l301004.getD ((v45).toNat) ([] : LN)).getD ((i).toNat) z3).2.2).toNat) ([] : LN)).getD ((i2).toNat) z3).2.2)]
abbrev e31_39 (g : TG) : Nat × Path × AV := s1 12 (.p (.sl tR) g.2.2.2)
abbrev e31_40 (l301004 : (List LN)) (v45 : Int) (l301003 : (List LN)) (v63 : Int) : Nat × Path × Con := hA 52 113 t3 ((l301004.getD (((v45 + (1 : Int))).toNat) ([] : LN)) ++ [(((l301003.getD ((v45).toNat) ([] : LN)).getD ((v63).toNat) z3).1, ((((l301003.getD ((v45).toNat) ([] : LN)).getD ((v63).toNat) z3).2.1 + (1 : Int)), ((l301003.getD ((v45).toNat) ([] : LN)).getD ((v63).toNat) z3).2.2))])
abbrev e31_41 (l301005 : (List LN)) (v45 : Int) : Nat × Path × Con := (30100, [], .deep 110 113 (.sl t3) l301005 [(82000, ((v45).toNat), [.own 82001])])
abbrev e31_42 (g : TG) : Nat × Path × Con := hB 17 [.pI g.1, .pI g.2.1, .pI g.2.2.1, .p (.sl tR) g.2.2.2, .own 15, .own 6105]
abbrev e31_43 (l301025 : (List (List ((Int × (Int × Int)) × Int)))) (v45 : Int) (l301005 : (List LN)) (l301004 : (List LN)) (i : Int) (i2 : Int) : Nat × Path × Con := (82001, [], .dict t3 tI (mset (l301025.getD ((v45).toNat) ([] : (List ((Int × (Int × Int)) × Int)))) (((l301005.getD ((((l301004.getD ((v45).toNat) ([] : LN)).getD ((i).toNat) z3).2.2).toNat) ([] : LN)).getD ((i2).toNat) z3).1, ((((l301005.getD ((((l301004.getD ((v45).toNat) ([] : LN)).getD ((i).toNat) z3).2.2).toNat) ([] : LN)).getD ((i2).toNat) z3).2.1 + (1 : Int)), ((l301005.getD ((((l301004.getD ((v45).toNat) ([] : LN)).getD ((i).toNat) z3).2.2).toNat) ([] : LN)).getD ((i2).toNat) z3).2.2)) ((l301005.getD ((v45).toNat) ([] : LN)).length : Int)))
abbrev e31_44 (l30100 : (List LN)) : Nat × Path × AV := sI 122 (l30100.length : Int)
abbrev e31_45 : Nat × Path × AV := sp 54 30101
abbrev e31_46 (l301025 : (List (List ((Int × (Int × Int)) × Int)))) (v45 : Int) (l301005 : (List LN)) (l301004 : (List LN)) (i : Int) (i2 : Int) : Nat × Path × AV := sB 7 ((mget (l301025.getD ((v45).toNat) ([] : (List ((Int × (Int × Int)) × Int)))) (((l301005.getD ((((l301004.getD ((v45).toNat) ([] : LN)).getD ((i).toNat) z3).2.2).toNat) ([] : LN)).getD ((i2).toNat) z3).1, ((((l301005.getD ((((l301004.getD ((v45).toNat) ([] : LN)).getD ((i).toNat) z3).2.2).toNat) ([] : LN)).getD ((i2).toNat) z3).2.1 + (1 : Int)), ((l301005.getD ((((l301004.getD ((v45).toNat) ([] : LN)).getD ((i).toNat) z3).2.2).toNat) ([] : LN)).getD ((i2).toNat) z3).2.2))).isSome)
abbrev e31_47 (l301024 : (List (List ((Int × (Int × Int)) × Int)))) (v45 : Int) : Nat × Path × Con := (30102, [], .deep 141 0 (.mp t3 tI) l301024 [(82010, (((v45 + (1 : Int))).toNat), [.own 82011])])
abbrev e31_48 (w : LI) : Nat × Path × AV := sI 22 ((List.replicate (((w.length : Int) + (1 : Int))).toNat ([] : LN)).length : Int)
abbrev e31_49 (l30100 : (List LN)) : Nat × Path × Con := (30100, [], .deep 110 113 (.sl t3) l30100 [])
abbrev e31_50 (l301003 : (List LN)) (v45 : Int) (v63 : Int) : Nat × Path × Con := hA 51 113 t3 [(((l301003.getD ((v45).toNat) ([] : LN)).getD ((v63).toNat) z3).1, ((((l301003.getD ((v45).toNat) ([] : LN)).getD ((v63).toNat) z3).2.1 + (1 : Int)), ((l301003.getD ((v45).toNat) ([] : LN)).getD ((v63).toNat) z3).2.2))]
abbrev e31_51 (l301023 : (List (List ((Int × (Int × Int)) × Int)))) : Nat × Path × Con := (30102, [], .deep 141 0 (.mp t3 tI) l301023 [])
abbrev e31_52 (l30102 : (List (List ((Int × (Int × Int)) × Int)))) : Nat × Path × Con := (30102, [], .deep 141 0 (.mp t3 tI) l30102 [(82000, (((0 : Int)).toNat), [.own 82001])])
abbrev e31_53 (g : TG) (l301004 : (List LN)) (v45 : Int) (i : Int) : Nat × Path × AV := sI 33 (g.1 + (g.2.2.2.getD (((l301004.getD ((v45).toNat) ([] : LN)).getD ((i).toNat) z3).1).toNat ((0 : Int), ([] : LI))).1)
abbrev e31_54 (l301005 : (List LN)) (l301004 : (List LN)) (v45 : Int) (i : Int) : Nat × Path × Con := (30100, [], .deep 110 113 (.sl t3) l301005 [(82000, ((((l301004.getD ((v45).toNat) ([] : LN)).getD ((i).toNat) z3).2.2).toNat), [.own 82001])])
abbrev e31_55 (l30100 : (List LN)) : Nat × Path × AV := sI 250 (l30100.length : Int)
abbrev e31_56 (l30100 : (List LN)) : Nat × Path × AV := sI 206 (l30100.length : Int)
abbrev e31_57 (l301005 : (List LN)) (l301004 : (List LN)) (v45 : Int) (i : Int) (i2 : Int) : Nat × Path × AV := sA 16 [.pI (((l301005.getD ((((l301004.getD ((v45).toNat) ([] : LN)).getD ((i).toNat) z3).2.2).toNat) ([] : LN)).getD ((i2).toNat) z3).1), .pI (((l301005.getD ((((l301004.getD ((v45).toNat) ([] : LN)).getD ((i).toNat) z3).2.2).toNat) ([] : LN)).getD ((i2).toNat) z3).2.1 + (1 : Int)), .pI (((l301005.getD ((((l301004.getD ((v45).toNat) ([] : LN)).getD ((i).toNat) z3).2.2).toNat) ([] : LN)).getD ((i2).toNat) z3).2.2)]
abbrev e31_58 (l301003 : (List LN)) (v45 : Int) : Nat × Path × AV := sI 62 ((l301003.getD ((v45).toNat) ([] : LN)).length : Int)
abbrev e31_59 (l301024 : (List (List ((Int × (Int × Int)) × Int)))) (v45 : Int) : Nat × Path × Con := (82011, [], .dict t3 tI (l301024.getD (((v45 + (1 : Int))).toNat) ([] : (List ((Int × (Int × Int)) × Int)))))
abbrev e31_60 (l30102 : (List (List ((Int × (Int × Int)) × Int)))) : Nat × Path × Con := (30102, [], .deep 141 0 (.mp t3 tI) l30102 [])
abbrev e31_61 (l301024 : (List (List ((Int × (Int × Int)) × Int)))) (v45 : Int) (l301003 : (List LN)) (v63 : Int) (l301004 : (List LN)) : Nat × Path × Con := (82011, [], .dict t3 tI (mset (l301024.getD (((v45 + (1 : Int))).toNat) ([] : (List ((Int × (Int × Int)) × Int)))) (((l301003.getD ((v45).toNat) ([] : LN)).getD ((v63).toNat) z3).1, ((((l301003.getD ((v45).toNat) ([] : LN)).getD ((v63).toNat) z3).2.1 + (1 : Int)), ((l301003.getD ((v45).toNat) ([] : LN)).getD ((v63).toNat) z3).2.2)) ((l301004.getD (((v45 + (1 : Int))).toNat) ([] : LN)).length : Int)))
abbrev e31_62 (l301005 : (List LN)) (v45 : Int) : Nat × Path × Con := (30100, [], .deep 110 113 (.sl t3) l301005 [(82010, ((v45).toNat), [.own 82011])])
abbrev e31_63 (l301005 : (List LN)) (l301004 : (List LN)) (v45 : Int) (i : Int) (i2 : Int) : Nat × Path × AV := sA 50 [.pI (((l301005.getD ((((l301004.getD ((v45).toNat) ([] : LN)).getD ((i).toNat) z3).2.2).toNat) ([] : LN)).getD ((i2).toNat) z3).1), .pI (((l301005.getD ((((l301004.getD ((v45).toNat) ([] : LN)).getD ((i).toNat) z3).2.2).toNat) ([] : LN)).getD ((i2).toNat) z3).2.1), .pI (((l301005.getD ((((l301004.getD ((v45).toNat) ([] : LN)).getD ((i).toNat) z3).2.2).toNat) ([] : LN)).getD ((i2).toNat) z3).2.2)]
abbrev e31_64 (l301005 : (List LN)) (l301004 : (List LN)) (v45 : Int) (i : Int) (i2 : Int) : Nat × Path × AV := sA 53 [.pI (((l301005.getD ((((l301004.getD ((v45).toNat) ([] : LN)).getD ((i).toNat) z3).2.2).toNat) ([] : LN)).getD ((i2).toNat) z3).1), .pI (((l301005.getD ((((l301004.getD ((v45).toNat) ([] : LN)).getD ((i).toNat) z3).2.2).toNat) ([] : LN)).getD ((i2).toNat) z3).2.1), .pI (((l301005.getD ((((l301004.getD ((v45).toNat) ([] : LN)).getD ((i).toNat) z3).2.2).toNat) ([] : LN)).getD ((i2).toNat) z3).2.2)]
abbrev e31_65 (l30100 : (List LN)) : Nat × Path × AV := sI 98 (l30100.length : Int)
abbrev e31_66 (l301004 : (List LN)) (v45 : Int) : Nat × Path × Con := (30100, [], .deep 110 113 (.sl t3) l301004 [(82000, ((v45).toNat), [.own 82001]), (82010, (((v45 + (1 : Int))).toNat), [.own 82011])])
abbrev e31_67 (l30100 : (List LN)) : Nat × Path × AV := sI 196 (l30100.length : Int)
abbrev e31_68 (l301003 : (List LN)) (v45 : Int) : Nat × Path × AV := sI 34 ((l301003.getD ((v45).toNat) ([] : LN)).length : Int)
abbrev e31_69 (l30102 : (List (List ((Int × (Int × Int)) × Int)))) : Nat × Path × Con := (82001, [], .dict t3 tI (l30102.getD (((0 : Int)).toNat) ([] : (List ((Int × (Int × Int)) × Int)))))
abbrev e31_70 (l30100 : (List LN)) : Nat × Path × AV := sI 44 (l30100.length : Int)
abbrev e31_71 (l301003 : (List LN)) (v45 : Int) (v63 : Int) : Nat × Path × AV := sA 50 [.pI (((l301003.getD ((v45).toNat) ([] : LN)).getD ((v63).toNat) z3).1), .pI (((l301003.getD ((v45).toNat) ([] : LN)).getD ((v63).toNat) z3).2.1 + (1 : Int)), .pI (((l301003.getD ((v45).toNat) ([] : LN)).getD ((v63).toNat) z3).2.2)]
abbrev e31_72 (l301005 : (List LN)) (l301004 : (List LN)) (v45 : Int) (i : Int) : Nat × Path × Con := hA 82001 113 t3 (l301005.getD ((((l301004.getD ((v45).toNat) ([] : LN)).getD ((i).toNat) z3).2.2).toNat) ([] : LN))
abbrev e31_73 (l301003 : (List LN)) (v45 : Int) (v63 : Int) : Nat × Path × Con := hB 3 [.pI (((l301003.getD ((v45).toNat) ([] : LN)).getD ((v63).toNat) z3).1), .pI (((l301003.getD ((v45).toNat) ([] : LN)).getD ((v63).toNat) z3).2.1), .pI (((l301003.getD ((v45).toNat) ([] : LN)).getD ((v63).toNat) z3).2.2)]
abbrev e31_74 (l301004 : (List LN)) (v45 : Int) : Nat × Path × Con := (30100, [], .deep 110 113 (.sl t3) l301004 [(82000, ((v45).toNat), [.own 82001]), (82020, (((v45 + (1 : Int))).toNat), [.own 82021])])
abbrev e31_75 (w : LI) : Nat × Path × AV := s1 1 (.pS w)
abbrev e31_76 (v14 : Int) : Nat × Path × Con := hB 5 [.pI v14, .pI (0 : Int), .pI (0 : Int)]
abbrev e31_77 (l301004 : (List LN)) (v45 : Int) (i : Int) : Nat × Path × Con := hB 6 [.pI (((l301004.getD ((v45).toNat) ([] : LN)).getD ((i).toNat) z3).1), .pI (((l301004.getD ((v45).toNat) ([] : LN)).getD ((i).toNat) z3).2.1), .pI (((l301004.getD ((v45).toNat) ([] : LN)).getD ((i).toNat) z3).2.2)]
abbrev e31_78 (l301004 : (List LN)) (v45 : Int) (i : Int) : Nat × Path × Con := hB 3 [.pI (((l301004.getD ((v45).toNat) ([] : LN)).getD ((i).toNat) z3).1), .pI (((l301004.getD ((v45).toNat) ([] : LN)).getD ((i).toNat) z3).2.1), .pI (((l301004.getD ((v45).toNat) ([] : LN)).getD ((i).toNat) z3).2.2)]
abbrev e31_79 (l301024 : (List (List ((Int × (Int × Int)) × Int)))) (v45 : Int) (l301003 : (List LN)) (v63 : Int) : Nat × Path × AV := sB 7 ((mget (l301024.getD (((v45 + (1 : Int))).toNat) ([] : (List ((Int × (Int × Int)) × Int)))) (((l301003.getD ((v45).toNat) ([] : LN)).getD ((v63).toNat) z3).1, ((((l301003.getD ((v45).toNat) ([] : LN)).getD ((v63).toNat) z3).2.1 + (1 : Int)), ((l301003.getD ((v45).toNat) ([] : LN)).getD ((v63).toNat) z3).2.2))).isSome)
abbrev e31_80 (l301005 : (List LN)) (v45 : Int) : Nat × Path × Con := hA 82001 113 t3 (l301005.getD ((v45).toNat) ([] : LN))
abbrev e31_81 : Nat × Path × AV := s1 41 (.own 30100)
abbrev e31_82 : Nat × Path × AV := s1 115 (.own 82001)
abbrev e31_83 (v14 : Int) (v45 : Int) : Nat × Path × Con := hB 5 [.pI v14, .pI (0 : Int), .pI v45]
abbrev e31_84 (g : TG) : Nat × Path × AV := sI 13 (g.2.2.2.length : Int)
abbrev e31_85 (l301022 : (List (List ((Int × (Int × Int)) × Int)))) : Nat × Path × Con := (30102, [], .deep 141 0 (.mp t3 tI) l301022 [])
abbrev e31_86 (l301002 : (List LN)) : Nat × Path × Con := (30100, [], .deep 110 113 (.sl t3) l301002 [])
abbrev e31_87 (l301005 : (List LN)) (v45 : Int) : Nat × Path × Con := hA 82011 113 t3 (l301005.getD ((v45).toNat) ([] : LN))
abbrev e31_88 (l30100 : (List LN)) : Nat × Path × Con := (30100, [], .deep 110 113 (.sl t3) l30100 [(82000, (((0 : Int)).toNat), [.own 82001])])
abbrev e31_89 (w : LI) : Nat × Path × AV := s1 79 (.pS w)
abbrev e31_90 (l301003 : (List LN)) (v45 : Int) : Nat × Path × Con := (30100, [], .deep 110 113 (.sl t3) l301003 [(82000, ((v45).toNat), [.own 82001])])
abbrev e31_91 (v4 : Int) (g : TG) : Nat × Path × AV := sI 56 (v4 - g.1)
abbrev e31_92 (l301003 : (List LN)) (v45 : Int) (v63 : Int) : Nat × Path × AV := sA 16 [.pI (((l301003.getD ((v45).toNat) ([] : LN)).getD ((v63).toNat) z3).1), .pI (((l301003.getD ((v45).toNat) ([] : LN)).getD ((v63).toNat) z3).2.1 + (1 : Int)), .pI (((l301003.getD ((v45).toNat) ([] : LN)).getD ((v63).toNat) z3).2.2)]
abbrev e31_93 (l301003 : (List LN)) : Nat × Path × Con := (30100, [], .deep 110 113 (.sl t3) l301003 [])
abbrev e31_94 (l301005 : (List LN)) (v45 : Int) : Nat × Path × Con := (30100, [], .deep 110 113 (.sl t3) l301005 [(82000, ((v45).toNat), [.any])])
abbrev e31_95 (l301003 : (List LN)) (v45 : Int) (v63 : Int) : Nat × Path × AV := sA 69 [.pI (((l301003.getD ((v45).toNat) ([] : LN)).getD ((v63).toNat) z3).1), .pI (((l301003.getD ((v45).toNat) ([] : LN)).getD ((v63).toNat) z3).2.1), .pI (((l301003.getD ((v45).toNat) ([] : LN)).getD ((v63).toNat) z3).2.2)]
abbrev e31_96 (l301003 : (List LN)) (v45 : Int) (v63 : Int) : Nat × Path × Con := hB 8 [.pI (((l301003.getD ((v45).toNat) ([] : LN)).getD ((v63).toNat) z3).1), .pI (((l301003.getD ((v45).toNat) ([] : LN)).getD ((v63).toNat) z3).2.1), .pI (((l301003.getD ((v45).toNat) ([] : LN)).getD ((v63).toNat) z3).2.2)]
abbrev e31_97 : Nat × Path × AV := sI 55 (0 : Int)
abbrev e31_98 (l301004 : (List LN)) (v45 : Int) (i : Int) : Nat × Path × AV := sA 51 [.pI (((l301004.getD ((v45).toNat) ([] : LN)).getD ((i).toNat) z3).1), .pI (((l301004.getD ((v45).toNat) ([] : LN)).getD ((i).toNat) z3).2.1), .pI (((l301004.getD ((v45).toNat) ([] : LN)).getD ((i).toNat) z3).2.2)]
abbrev e31_99 (l30100 : (List LN)) : Nat × Path × Con := (30100, [], .deep 110 113 (.sl t3) l30100 [(82010, (((0 : Int)).toNat), [.own 82011])])
abbrev e31_100 : Nat × Path × AV := sp 83 30101
abbrev e31_101 (l301003 : (List LN)) (v45 : Int) : Nat × Path × AV := sI 105 ((l301003.getD ((v45).toNat) ([] : LN)).length : Int)
abbrev e31_102 (w : LI) : Nat × Path × AV := s1 207 (.pS w)
abbrev e31_103 (w : LI) : Nat × Path × AV := s1 163 (.pS w)
abbrev e31_104 (l301003 : (List LN)) (v45 : Int) : Nat × Path × AV := sI 89 ((l301003.getD ((v45).toNat) ([] : LN)).length : Int)
abbrev e31_105 (l301003 : (List LN)) (v45 : Int) : Nat × Path × AV := sI 31 ((l301003.getD ((v45).toNat) ([] : LN)).length : Int)
abbrev e31_106 (l30102 : (List (List ((Int × (Int × Int)) × Int)))) (v14 : Int) (l30100 : (List LN)) : Nat × Path × Con := (82001, [], .dict t3 tI (mset (l30102.getD (((0 : Int)).toNat) ([] : (List ((Int × (Int × Int)) × Int)))) (v14, ((0 : Int), (0 : Int))) ((l30100.getD (((0 : Int)).toNat) ([] : LN)).length : Int)))
abbrev e31_107 (l301004 : (List LN)) (v45 : Int) : Nat × Path × Con := hA 82011 113 t3 (l301004.getD (((v45 + (1 : Int))).toNat) ([] : LN))
abbrev e31_108 (w : LI) : Nat × Path × AV := s1 153 (.pS w)
abbrev e31_109 (out : (List LN)) (v24 : Int) : Nat × Path × Con := (30100, [], .deep 110 113 (.sl t3) out [(82000, ((v24).toNat), [.own 82001])])
abbrev e31_110 (w : LI) : Nat × Path × AV := s1 55 (.pS w)
abbrev e31_111 (g : TG) : Nat × Path × AV := sI 56 g.2.2.1
abbrev e31_112 (w : LI) : Nat × Path × AV := s1 85 (.pS w)
abbrev e31_113 (l301004 : (List LN)) (v45 : Int) : Nat × Path × Con := (30100, [], .deep 110 113 (.sl t3) l301004 [(82000, ((v45).toNat), [.own 82001]), (82010, (((v45 + (1 : Int))).toNat), [.any])])
abbrev e31_114 : Nat × Path × AV := sI 1 (0 : Int)
abbrev e31_115 (l30100 : (List LN)) (v14 : Int) : Nat × Path × Con := hA 52 113 t3 ((l30100.getD (((0 : Int)).toNat) ([] : LN)) ++ [(v14, ((0 : Int), (0 : Int)))])
abbrev e31_116 (l30100 : (List LN)) : Nat × Path × AV := sI 152 (l30100.length : Int)
abbrev e31_117 : Nat × Path × AV := sp 128 30101
abbrev e31_118 : Nat × Path × AV := sp 211 30101
abbrev e31_119 : Nat × Path × AV := sp 167 30101
abbrev e31_120 (l301005 : (List LN)) (v45 : Int) : Nat × Path × AV := sI 37 ((l301005.getD ((v45).toNat) ([] : LN)).length : Int)
abbrev e31_121 (l30100 : (List LN)) : Nat × Path × Con := hA 82001 113 t3 (l30100.getD (((0 : Int)).toNat) ([] : LN))
abbrev e31_122 (v45 : Int) : Nat × Path × AV := sI 1 (v45 + (1 : Int))
abbrev e31_123 (l301004 : (List LN)) (v45 : Int) : Nat × Path × Con := hA 82021 113 t3 (l301004.getD (((v45 + (1 : Int))).toNat) ([] : LN))
abbrev e31_124 : Nat × Path × AV := sp 157 30101
abbrev e31_125 : Nat × Path × AV := sp 59 30101
abbrev e31_126 : Nat × Path × AV := sp 59 31000
abbrev e31_127 : Nat × Path × AV := sp 84 30101
abbrev e31_128 : Nat × Path × AV := sp 89 30101
abbrev e31_129 (l301005 : (List LN)) (v45 : Int) (v14 : Int) : Nat × Path × Con := hA 52 113 t3 ((l301005.getD ((v45).toNat) ([] : LN)) ++ [(v14, ((0 : Int), v45))])
abbrev e31_130 (g : TG) : Nat × Path × Con := hB 17 [.pI g.1, .pI g.2.1, .pI g.2.2.1, .p (.sl tR) g.2.2.2, .own 15, .nils]
abbrev e31_131 : Nat × Path × AV := sp 5 30101
abbrev e31_132 (w : LI) : Nat × Path × Con := (30100, [], .deep 110 113 (.sl t3) (List.replicate (((w.length : Int) + (1 : Int))).toNat ([] : LN)) [])
abbrev e31_133 (l301002 : (List LN)) : Nat × Path × AV := sI 23 (l301002.length : Int)
abbrev e31_134 : Nat × Path × AV := sp 74 30101
abbrev e31_135 (l30100 : (List LN)) : Nat × Path × Con := hA 82011 113 t3 (l30100.getD (((0 : Int)).toNat) ([] : LN))
abbrev e31_136 (l6105 : (List (List ((Int × (Int × Int)) × Int)))) : Nat × Path × Con := (32, [], .deep 141 0 (.mp t3 tI) (l6105 ++ [([] : List ((Int × (Int × Int)) × Int))]) [])
abbrev e31_137 (l301026 : (List (List ((Int × (Int × Int)) × Int)))) : Nat × Path × Con := (30102, [], .deep 141 0 (.mp t3 tI) l301026 [])
abbrev e31_138 (v14 : Int) : Nat × Path × AV := sA 29 [.pI v14, .pI (0 : Int), .pI (0 : Int)]
abbrev e31_139 (l6105 : (List (List ((Int × (Int × Int)) × Int)))) : Nat × Path × Con := (6105, [], .deep 141 0 (.mp t3 tI) l6105 [])
abbrev e31_140 : Nat × Path × AV := s1 61 (.own 82001)
abbrev e31_141 (g : TG) (v14 : Int) : Nat × Path × Con := hB 7 [.pI ((g.2.2.2.getD (v14).toNat ((0 : Int), ([] : LI))).1), .pS ((g.2.2.2.getD (v14).toNat ((0 : Int), ([] : LI))).2)]
abbrev e31_142 (l30100 : (List LN)) : Nat × Path × Con := (30100, [], .deep 110 113 (.sl t3) l30100 [(82000, (((0 : Int)).toNat), [.any])])
abbrev e31_143 : Nat × Path × AV := s1 51 (.own 51)
abbrev e31_144 : Nat × Path × AV := s1 7 (.own 30100)
abbrev e31_145 (v14 : Int) (v45 : Int) : Nat × Path × AV := sA 29 [.pI v14, .pI (0 : Int), .pI v45]
abbrev e31_146 (l301006 : (List LN)) : Nat × Path × Con := (30100, [], .deep 110 113 (.sl t3) l301006 [])
abbrev e31_147 : Nat × Path × AV := s1 27 (.ep 30102 82000 0)
abbrev e31_148 (g : TG) : Nat × Path × Con := hB 17 [.pI g.1, .pI g.2.1, .pI g.2.2.1, .p (.sl tR) g.2.2.2, .own 15, .own 32]
abbrev e31_149 (l301004 : (List LN)) (v45 : Int) : Nat × Path × AV := sI 37 ((l301004.getD (((v45 + (1 : Int))).toNat) ([] : LN)).length : Int)
abbrev e31_150 (l301004 : (List LN)) (v45 : Int) : Nat × Path × Con := hA 82001 113 t3 (l301004.getD ((v45).toNat) ([] : LN))
abbrev e31_151 : Nat × Path × AV := s1 49 (.own 82001)
abbrev e31_152 : Nat × Path × AV := s1 22 (.own 30100)
abbrev e31_153 (l30100 : (List LN)) : Nat × Path × AV := sI 149 (l30100.length : Int)
abbrev e31_154 (l30100 : (List LN)) : Nat × Path × AV := sI 223 (l30100.length : Int)
abbrev e31_155 (l30100 : (List LN)) : Nat × Path × AV := sI 37 ((l30100.getD (((0 : Int)).toNat) ([] : LN)).length : Int)
abbrev e31_156 (l30100 : (List LN)) : Nat × Path × AV := sI 71 (l30100.length : Int)
abbrev e31_157 : Nat × Path × Con := (6105, [], .deep 141 0 (.mp t3 tI) ([] : List (List ((Int × (Int × Int)) × Int))) [])
abbrev e31_158 (g : TG) : Nat × Path × AV := sA 11 [.pI g.1, .pI g.2.1, .pI g.2.2.1, .p (.sl tR) g.2.2.2]
abbrev e31_159 (v45 : Int) : Nat × Path × AV := sI 42 (v45 + (1 : Int))
abbrev e31_160 (w : LI) : Nat × Path × AV := s1 109 (.pS w)
abbrev e31_161 : Nat × Path × AV := s1 52 (.own 52)
abbrev e31_162 (v14 : Int) : Nat × Path × Con := hA 51 113 t3 [(v14, ((0 : Int), (0 : Int)))]
abbrev e31_163 (out : (List LN)) : Nat × Path × Con := (30100, [], .deep 110 113 (.sl t3) out [])
abbrev e31_164 : Nat × Path × AV := sp 113 30101
abbrev e31_165 : Nat × Path × AV := sp 27 30101
abbrev e31_166 : Nat × Path × AV := s1 48 (.ep 30100 82000 0)
abbrev e31_167 : Nat × Path × AV := s1 28 (.own 82001)
abbrev e31_168 : Nat × Path × AV := sp 35 30101
abbrev e31_169 : Nat × Path × AV := sp 30 30101
abbrev e31_170 (v14 : Int) : Nat × Path × AV := sA 50 [.pI v14, .pI (0 : Int), .pI (0 : Int)]
abbrev e31_171 (v45 : Int) : Nat × Path × AV := s1 35 (.el 30100 ((v45).toNat) 1)
abbrev e31_172 : Nat × Path × AV := s1 88 (.own 82001)
abbrev e31_173 : Nat × Path × AV := sI 42 (0 : Int)
abbrev e31_n0 : List Nat := [15, 14, 6, 13, 12, 11, 10, 9, 8, 7, 5, 4, 3, 2, 1, 0]
abbrev e31_n1 : List Nat := [13, 11, 12, 10, 9, 8, 7, 6, 5, 4, 3, 2, 1, 0]
abbrev e31_n2 : List Nat := [15, 14, 13, 11, 12, 10, 9, 8, 7, 6, 5, 4, 3, 2, 1, 0]
abbrev e31_n3 : List Nat := [15, 14, 13, 12, 11, 10, 9, 8, 7, 5, 4, 3, 2, 1, 0]
abbrev e31_n4 : List Nat := [13, 12, 11, 10, 9, 8, 6, 7, 5, 4, 3, 2, 1, 0]
abbrev e31_n5 : List Nat := [0, 1, 2, 3, 4, 5, 7, 8, 9, 10, 11, 12, 13]
abbrev e31_n6 : List Nat := [13, 12, 11, 10, 9, 8, 7, 5, 4, 3, 2, 1, 0]
abbrev e31_n7 : List Nat := [0, 1, 2, 3, 4, 5, 6, 7, 8, 9, 10, 12]
abbrev e31_n8 : List Nat := [12, 10, 9, 8, 7, 6, 5, 4, 3, 2, 1, 0]
abbrev e31_n9 : List Nat := [10, 9, 8, 7, 6, 5, 4, 3, 2, 1, 0]
abbrev e31_n10 : List Nat := [0, 1, 2, 3, 4, 5, 6, 7, 8, 9, 10]
abbrev e31_n11 : List Nat := [6, 8, 9, 10, 11, 12, 13]
abbrev e31_n12 : List Nat := [0, 1, 2, 3, 4, 5, 7]
abbrev e31_n13 : List Nat := [7, 5, 4, 3, 2, 1, 0]
-- coppicer/items.Sets
def VC31_k4 (K : (List LN) × Int → Prop) (out : (List LN)) : Prop :=
  K (out, (0 : Int))
def VC31_l1 (K : (List LN) × Int → Prop) (l301002 : (List LN)) (v24 : Int) (out : (List LN)) (X1 : Int × (List LN) → Prop) : Prop :=
  (((decide (v24 < (l301002.length : Int))) = true → (inIdx v24 out.length ∧ SortVC (out.getD ((v24).toNat) ([] : LN)) (fun (x : (Int × (Int × Int)) × (Int × (Int × Int))) (K : Int → Prop) => VC64 x.1 x.2 K) (fun (srtv : List (Int × (Int × Int))) => (InR (v24 + (1 : Int)) ∧ X1 ((v24 + (1 : Int)), (out.set ((v24).toNat) srtv)))))) ∧ ((decide (v24 < (l301002.length : Int))) = false → VC31_k4 K out))
def VC31_k3 (K : (List LN) × Int → Prop) (l301002 : (List LN)) (l301022 : (List (List ((Int × (Int × Int)) × Int)))) : Prop :=
  Loop (σ := Int × (List LN)) (fun s X => VC31_l1 K l301002 s.1 s.2 X) ((0 : Int), l301002)
def VC31_k6 (v45 : Int) (X2 : Int × (List LN) × (List (List ((Int × (Int × Int)) × Int))) → Prop) (l301003 : (List LN)) (l301004 : (List LN)) (l301024 : (List (List ((Int × (Int × Int)) × Int)))) : Prop :=
  (InR (v45 + (1 : Int)) ∧ X2 ((v45 + (1 : Int)), (l301004.set ((v45).toNat) (l301003.getD ((v45).toNat) ([] : LN))), l301024))
def VC31_k8 (v63 : Int) (X3 : Int × (List LN) × (List (List ((Int × (Int × Int)) × Int))) → Prop) (l301005 : (List LN)) (l301025 : (List (List ((Int × (Int × Int)) × Int)))) : Prop :=
  (InR (v63 + (1 : Int)) ∧ X3 ((v63 + (1 : Int)), l301005, l301025))
def VC31_k9 (v63 : Int) (X3 : Int × (List LN) × (List (List ((Int × (Int × Int)) × Int))) → Prop) (l301005 : (List LN)) (l301025 : (List (List ((Int × (Int × Int)) × Int)))) : Prop :=
  VC31_k8 v63 X3 l301005 l301025
def VC31_k7 (w : LI) (v45 : Int) (l301003 : (List LN)) (v63 : Int) (l301004 : (List LN)) (l301024 : (List (List ((Int × (Int × Int)) × Int)))) (X3 : Int × (List LN) × (List (List ((Int × (Int × Int)) × Int))) → Prop) (v4 : Int) (v5 : Bool) : Prop :=
  ((v5 = true → inIdx v45 w.length) ∧ (((v5 && (decide (v4 = (w.getD (v45).toNat (0 : Int))))) = true → (InR (v45 + (1 : Int)) ∧ InR (((l301003.getD ((v45).toNat) ([] : LN)).getD ((v63).toNat) z3).2.1 + (1 : Int)) ∧ (inIdx (v45 + (1 : Int)) l301024.length ∧ (((!(mget (l301024.getD (((v45 + (1 : Int))).toNat) ([] : (List ((Int × (Int × Int)) × Int)))) (((l301003.getD ((v45).toNat) ([] : LN)).getD ((v63).toNat) z3).1, ((((l301003.getD ((v45).toNat) ([] : LN)).getD ((v63).toNat) z3).2.1 + (1 : Int)), ((l301003.getD ((v45).toNat) ([] : LN)).getD ((v63).toNat) z3).2.2))).isSome) = true → (inIdx (v45 + (1 : Int)) l301024.length ∧ inIdx (v45 + (1 : Int)) l301004.length ∧ (((v45).toNat) ≠ (((v45 + (1 : Int))).toNat) ∧ (inIdx (v45 + (1 : Int)) l301004.length ∧ (((v45).toNat) ≠ (((v45 + (1 : Int))).toNat) ∧ (roomN ((l301004.getD (((v45 + (1 : Int))).toNat) ([] : LN)).length + [(((l301003.getD ((v45).toNat) ([] : LN)).getD ((v63).toNat) z3).1, ((((l301003.getD ((v45).toNat) ([] : LN)).getD ((v63).toNat) z3).2.1 + (1 : Int)), ((l301003.getD ((v45).toNat) ([] : LN)).getD ((v63).toNat) z3).2.2))].length) ∧ (inIdx (v45 + (1 : Int)) l301004.length ∧ VC31_k9 v63 X3 (l301004.set (((v45 + (1 : Int))).toNat) ((l301004.getD (((v45 + (1 : Int))).toNat) ([] : LN)) ++ [(((l301003.getD ((v45).toNat) ([] : LN)).getD ((v63).toNat) z3).1, ((((l301003.getD ((v45).toNat) ([] : LN)).getD ((v63).toNat) z3).2.1 + (1 : Int)), ((l301003.getD ((v45).toNat) ([] : LN)).getD ((v63).toNat) z3).2.2))])) (l301024.set (((v45 + (1 : Int))).toNat) (mset (l301024.getD (((v45 + (1 : Int))).toNat) ([] : (List ((Int × (Int × Int)) × Int)))) (((l301003.getD ((v45).toNat) ([] : LN)).getD ((v63).toNat) z3).1, ((((l301003.getD ((v45).toNat) ([] : LN)).getD ((v63).toNat) z3).2.1 + (1 : Int)), ((l301003.getD ((v45).toNat) ([] : LN)).getD ((v63).toNat) z3).2.2)) ((l301004.getD (((v45 + (1 : Int))).toNat) ([] : LN)).length : Int)))))))))) ∧ ((!(mget (l301024.getD (((v45 + (1 : Int))).toNat) ([] : (List ((Int × (Int × Int)) × Int)))) (((l301003.getD ((v45).toNat) ([] : LN)).getD ((v63).toNat) z3).1, ((((l301003.getD ((v45).toNat) ([] : LN)).getD ((v63).toNat) z3).2.1 + (1 : Int)), ((l301003.getD ((v45).toNat) ([] : LN)).getD ((v63).toNat) z3).2.2))).isSome) = false → VC31_k9 v63 X3 l301004 l301024))))) ∧ ((v5 && (decide (v4 = (w.getD (v45).toNat (0 : Int))))) = false → VC31_k8 v63 X3 l301004 l301024)))
def VC31_l3 (g : TG) (w : LI) (v45 : Int) (X2 : Int × (List LN) × (List (List ((Int × (Int × Int)) × Int))) → Prop) (l301003 : (List LN)) (v63 : Int) (l301004 : (List LN)) (l301024 : (List (List ((Int × (Int × Int)) × Int)))) (X3 : Int × (List LN) × (List (List ((Int × (Int × Int)) × Int))) → Prop) : Prop :=
  (((decide (v63 < ((l301003.getD ((v45).toNat) ([] : LN)).length : Int))) = true → (inIdx v63 (l301003.getD ((v45).toNat) ([] : LN)).length ∧ (inIdx (((l301003.getD ((v45).toNat) ([] : LN)).getD ((v63).toNat) z3).1) g.2.2.2.length ∧ (((decide (((l301003.getD ((v45).toNat) ([] : LN)).getD ((v63).toNat) z3).2.1 = (((g.2.2.2.getD (((l301003.getD ((v45).toNat) ([] : LN)).getD ((v63).toNat) z3).1).toNat ((0 : Int), ([] : LI))).2).length : Int))) = true → VC31_k7 w v45 l301003 v63 l301004 l301024 X3 (0 : Int) false) ∧ ((decide (((l301003.getD ((v45).toNat) ([] : LN)).getD ((v63).toNat) z3).2.1 = (((g.2.2.2.getD (((l301003.getD ((v45).toNat) ([] : LN)).getD ((v63).toNat) z3).1).toNat ((0 : Int), ([] : LI))).2).length : Int))) = false → (inIdx (((l301003.getD ((v45).toNat) ([] : LN)).getD ((v63).toNat) z3).2.1) ((g.2.2.2.getD (((l301003.getD ((v45).toNat) ([] : LN)).getD ((v63).toNat) z3).1).toNat ((0 : Int), ([] : LI))).2).length ∧ VC31_k7 w v45 l301003 v63 l301004 l301024 X3 (((g.2.2.2.getD (((l301003.getD ((v45).toNat) ([] : LN)).getD ((v63).toNat) z3).1).toNat ((0 : Int), ([] : LI))).2).getD (((l301003.getD ((v45).toNat) ([] : LN)).getD ((v63).toNat) z3).2.1).toNat (0 : Int)) true)))))) ∧ ((decide (v63 < ((l301003.getD ((v45).toNat) ([] : LN)).length : Int))) = false → VC31_k6 v45 X2 l301003 l301004 l301024))
def VC31_k5 (g : TG) (w : LI) (K : (List LN) × Int → Prop) (v45 : Int) (X2 : Int × (List LN) × (List (List ((Int × (Int × Int)) × Int))) → Prop) (l301003 : (List LN)) (l301023 : (List (List ((Int × (Int × Int)) × Int)))) : Prop :=
  (((decide (v45 = (w.length : Int))) = true → VC31_k3 K l301003 l301023) ∧ ((decide (v45 = (w.length : Int))) = false → (inIdx v45 l301003.length ∧ Loop (σ := Int × (List LN) × (List (List ((Int × (Int × Int)) × Int)))) (fun s X => VC31_l3 g w v45 X2 l301003 s.1 s.2.1 s.2.2 X) ((0 : Int), l301003, l301023))))
def VC31_k10 (v45 : Int) (l301003 : (List LN)) (X4 : Int × (List LN) × (List (List ((Int × (Int × Int)) × Int))) → Prop) (l301004 : (List LN)) (l301024 : (List (List ((Int × (Int × Int)) × Int)))) : Prop :=
  X4 (((l301003.getD ((v45).toNat) ([] : LN)).length : Int), l301004, l301024)
def VC31_k12 (i : Int) (X5 : Int × (List LN) × (List (List ((Int × (Int × Int)) × Int))) → Prop) (l301005 : (List LN)) (l301025 : (List (List ((Int × (Int × Int)) × Int)))) : Prop :=
  (InR (i + (1 : Int)) ∧ X5 ((i + (1 : Int)), l301005, l301025))
def VC31_k13 (i : Int) (X5 : Int × (List LN) × (List (List ((Int × (Int × Int)) × Int))) → Prop) (l301005 : (List LN)) (l301025 : (List (List ((Int × (Int × Int)) × Int)))) : Prop :=
  VC31_k12 i X5 l301005 l301025
def VC31_k15 (i2 : Int) (X6 : Int × (List LN) × (List (List ((Int × (Int × Int)) × Int))) → Prop) (l301006 : (List LN)) (l301026 : (List (List ((Int × (Int × Int)) × Int)))) : Prop :=
  (InR (i2 + (1 : Int)) ∧ X6 ((i2 + (1 : Int)), l301006, l301026))
def VC31_k16 (i2 : Int) (X6 : Int × (List LN) × (List (List ((Int × (Int × Int)) × Int))) → Prop) (l301006 : (List LN)) (l301026 : (List (List ((Int × (Int × Int)) × Int)))) : Prop :=
  VC31_k15 i2 X6 l301006 l301026
def VC31_k14 (g : TG) (v45 : Int) (i : Int) (l301004 : (List LN)) (i2 : Int) (l301005 : (List LN)) (l301025 : (List (List ((Int × (Int × Int)) × Int)))) (X6 : Int × (List LN) × (List (List ((Int × (Int × Int)) × Int))) → Prop) (v42 : Int) (v52 : Bool) : Prop :=
  (((v52 && (decide (v42 = (g.1 + (g.2.2.2.getD (((l301004.getD ((v45).toNat) ([] : LN)).getD ((i).toNat) z3).1).toNat ((0 : Int), ([] : LI))).1)))) = true → (InR (((l301005.getD ((((l301004.getD ((v45).toNat) ([] : LN)).getD ((i).toNat) z3).2.2).toNat) ([] : LN)).getD ((i2).toNat) z3).2.1 + (1 : Int)) ∧ (inIdx v45 l301025.length ∧ (((!(mget (l301025.getD ((v45).toNat) ([] : (List ((Int × (Int × Int)) × Int)))) (((l301005.getD ((((l301004.getD ((v45).toNat) ([] : LN)).getD ((i).toNat) z3).2.2).toNat) ([] : LN)).getD ((i2).toNat) z3).1, ((((l301005.getD ((((l301004.getD ((v45).toNat) ([] : LN)).getD ((i).toNat) z3).2.2).toNat) ([] : LN)).getD ((i2).toNat) z3).2.1 + (1 : Int)), ((l301005.getD ((((l301004.getD ((v45).toNat) ([] : LN)).getD ((i).toNat) z3).2.2).toNat) ([] : LN)).getD ((i2).toNat) z3).2.2))).isSome) = true → (inIdx v45 l301025.length ∧ inIdx v45 l301005.length ∧ (inIdx v45 l301005.length ∧ (roomN ((l301005.getD ((v45).toNat) ([] : LN)).length + [(((l301005.getD ((((l301004.getD ((v45).toNat) ([] : LN)).getD ((i).toNat) z3).2.2).toNat) ([] : LN)).getD ((i2).toNat) z3).1, ((((l301005.getD ((((l301004.getD ((v45).toNat) ([] : LN)).getD ((i).toNat) z3).2.2).toNat) ([] : LN)).getD ((i2).toNat) z3).2.1 + (1 : Int)), ((l301005.getD ((((l301004.getD ((v45).toNat) ([] : LN)).getD ((i).toNat) z3).2.2).toNat) ([] : LN)).getD ((i2).toNat) z3).2.2))].length) ∧ (inIdx v45 l301005.length ∧ VC31_k16 i2 X6 (l301005.set ((v45).toNat) ((l301005.getD ((v45).toNat) ([] : LN)) ++ [(((l301005.getD ((((l301004.getD ((v45).toNat) ([] : LN)).getD ((i).toNat) z3).2.2).toNat) ([] : LN)).getD ((i2).toNat) z3).1, ((((l301005.getD ((((l301004.getD ((v45).toNat) ([] : LN)).getD ((i).toNat) z3).2.2).toNat) ([] : LN)).getD ((i2).toNat) z3).2.1 + (1 : Int)), ((l301005.getD ((((l301004.getD ((v45).toNat) ([] : LN)).getD ((i).toNat) z3).2.2).toNat) ([] : LN)).getD ((i2).toNat) z3).2.2))])) (l301025.set ((v45).toNat) (mset (l301025.getD ((v45).toNat) ([] : (List ((Int × (Int × Int)) × Int)))) (((l301005.getD ((((l301004.getD ((v45).toNat) ([] : LN)).getD ((i).toNat) z3).2.2).toNat) ([] : LN)).getD ((i2).toNat) z3).1, ((((l301005.getD ((((l301004.getD ((v45).toNat) ([] : LN)).getD ((i).toNat) z3).2.2).toNat) ([] : LN)).getD ((i2).toNat) z3).2.1 + (1 : Int)), ((l301005.getD ((((l301004.getD ((v45).toNat) ([] : LN)).getD ((i).toNat) z3).2.2).toNat) ([] : LN)).getD ((i2).toNat) z3).2.2)) ((l301005.getD ((v45).toNat) ([] : LN)).length : Int)))))))) ∧ ((!(mget (l301025.getD ((v45).toNat) ([] : (List ((Int × (Int × Int)) × Int)))) (((l301005.getD ((((l301004.getD ((v45).toNat) ([] : LN)).getD ((i).toNat) z3).2.2).toNat) ([] : LN)).getD ((i2).toNat) z3).1, ((((l301005.getD ((((l301004.getD ((v45).toNat) ([] : LN)).getD ((i).toNat) z3).2.2).toNat) ([] : LN)).getD ((i2).toNat) z3).2.1 + (1 : Int)), ((l301005.getD ((((l301004.getD ((v45).toNat) ([] : LN)).getD ((i).toNat) z3).2.2).toNat) ([] : LN)).getD ((i2).toNat) z3).2.2))).isSome) = false → VC31_k16 i2 X6 l301005 l301025))))) ∧ ((v52 && (decide (v42 = (g.1 + (g.2.2.2.getD (((l301004.getD ((v45).toNat) ([] : LN)).getD ((i).toNat) z3).1).toNat ((0 : Int), ([] : LI))).1)))) = false → VC31_k15 i2 X6 l301005 l301025))
def VC31_l6 (g : TG) (v45 : Int) (i : Int) (l301004 : (List LN)) (X5 : Int × (List LN) × (List (List ((Int × (Int × Int)) × Int))) → Prop) (i2 : Int) (l301005 : (List LN)) (l301025 : (List (List ((Int × (Int × Int)) × Int)))) (X6 : Int × (List LN) × (List (List ((Int × (Int × Int)) × Int))) → Prop) : Prop :=
  (inIdx (((l301004.getD ((v45).toNat) ([] : LN)).getD ((i).toNat) z3).2.2) l301005.length ∧ (((decide (i2 < ((l301005.getD ((((l301004.getD ((v45).toNat) ([] : LN)).getD ((i).toNat) z3).2.2).toNat) ([] : LN)).length : Int))) = true → (inIdx (((l301004.getD ((v45).toNat) ([] : LN)).getD ((i).toNat) z3).2.2) l301005.length ∧ (inIdx i2 (l301005.getD ((((l301004.getD ((v45).toNat) ([] : LN)).getD ((i).toNat) z3).2.2).toNat) ([] : LN)).length ∧ (inIdx (((l301005.getD ((((l301004.getD ((v45).toNat) ([] : LN)).getD ((i).toNat) z3).2.2).toNat) ([] : LN)).getD ((i2).toNat) z3).1) g.2.2.2.length ∧ (((decide (((l301005.getD ((((l301004.getD ((v45).toNat) ([] : LN)).getD ((i).toNat) z3).2.2).toNat) ([] : LN)).getD ((i2).toNat) z3).2.1 = (((g.2.2.2.getD (((l301005.getD ((((l301004.getD ((v45).toNat) ([] : LN)).getD ((i).toNat) z3).2.2).toNat) ([] : LN)).getD ((i2).toNat) z3).1).toNat ((0 : Int), ([] : LI))).2).length : Int))) = true → VC31_k14 g v45 i l301004 i2 l301005 l301025 X6 (0 : Int) false) ∧ ((decide (((l301005.getD ((((l301004.getD ((v45).toNat) ([] : LN)).getD ((i).toNat) z3).2.2).toNat) ([] : LN)).getD ((i2).toNat) z3).2.1 = (((g.2.2.2.getD (((l301005.getD ((((l301004.getD ((v45).toNat) ([] : LN)).getD ((i).toNat) z3).2.2).toNat) ([] : LN)).getD ((i2).toNat) z3).1).toNat ((0 : Int), ([] : LI))).2).length : Int))) = false → (inIdx (((l301005.getD ((((l301004.getD ((v45).toNat) ([] : LN)).getD ((i).toNat) z3).2.2).toNat) ([] : LN)).getD ((i2).toNat) z3).2.1) ((g.2.2.2.getD (((l301005.getD ((((l301004.getD ((v45).toNat) ([] : LN)).getD ((i).toNat) z3).2.2).toNat) ([] : LN)).getD ((i2).toNat) z3).1).toNat ((0 : Int), ([] : LI))).2).length ∧ VC31_k14 g v45 i l301004 i2 l301005 l301025 X6 (((g.2.2.2.getD (((l301005.getD ((((l301004.getD ((v45).toNat) ([] : LN)).getD ((i).toNat) z3).2.2).toNat) ([] : LN)).getD ((i2).toNat) z3).1).toNat ((0 : Int), ([] : LI))).2).getD (((l301005.getD ((((l301004.getD ((v45).toNat) ([] : LN)).getD ((i).toNat) z3).2.2).toNat) ([] : LN)).getD ((i2).toNat) z3).2.1).toNat (0 : Int)) true))))))) ∧ ((decide (i2 < ((l301005.getD ((((l301004.getD ((v45).toNat) ([] : LN)).getD ((i).toNat) z3).2.2).toNat) ([] : LN)).length : Int))) = false → VC31_k13 i X5 l301005 l301025)))
def VC31_k17 (i : Int) (X5 : Int × (List LN) × (List (List ((Int × (Int × Int)) × Int))) → Prop) (l301005 : (List LN)) (l301025 : (List (List ((Int × (Int × Int)) × Int)))) : Prop :=
  VC31_k12 i X5 l301005 l301025
def VC31_k18 (i : Int) (X5 : Int × (List LN) × (List (List ((Int × (Int × Int)) × Int))) → Prop) (l301005 : (List LN)) (l301025 : (List (List ((Int × (Int × Int)) × Int)))) : Prop :=
  VC31_k17 i X5 l301005 l301025
def VC31_k19 (v14 : Int) (X7 : Int × (List LN) × (List (List ((Int × (Int × Int)) × Int))) → Prop) (l301006 : (List LN)) (l301026 : (List (List ((Int × (Int × Int)) × Int)))) : Prop :=
  (InR (v14 + (1 : Int)) ∧ X7 ((v14 + (1 : Int)), l301006, l301026))
def VC31_k20 (v14 : Int) (X7 : Int × (List LN) × (List (List ((Int × (Int × Int)) × Int))) → Prop) (l301006 : (List LN)) (l301026 : (List (List ((Int × (Int × Int)) × Int)))) : Prop :=
  VC31_k19 v14 X7 l301006 l301026
def VC31_l7 (g : TG) (v45 : Int) (i : Int) (X5 : Int × (List LN) × (List (List ((Int × (Int × Int)) × Int))) → Prop) (v4 : Int) (v14 : Int) (l301005 : (List LN)) (l301025 : (List (List ((Int × (Int × Int)) × Int)))) (X7 : Int × (List LN) × (List (List ((Int × (Int × Int)) × Int))) → Prop) : Prop :=
  (((decide (v14 < (g.2.2.2.length : Int))) = true → (inIdx v14 g.2.2.2.length ∧ (((decide ((g.2.2.2.getD (v14).toNat ((0 : Int), ([] : LI))).1 = (v4 - g.1))) = true → (inIdx v45 l301025.length ∧ (((!(mget (l301025.getD ((v45).toNat) ([] : (List ((Int × (Int × Int)) × Int)))) (v14, ((0 : Int), v45))).isSome) = true → (inIdx v45 l301025.length ∧ inIdx v45 l301005.length ∧ (inIdx v45 l301005.length ∧ (roomN ((l301005.getD ((v45).toNat) ([] : LN)).length + [(v14, ((0 : Int), v45))].length) ∧ (inIdx v45 l301005.length ∧ VC31_k20 v14 X7 (l301005.set ((v45).toNat) ((l301005.getD ((v45).toNat) ([] : LN)) ++ [(v14, ((0 : Int), v45))])) (l301025.set ((v45).toNat) (mset (l301025.getD ((v45).toNat) ([] : (List ((Int × (Int × Int)) × Int)))) (v14, ((0 : Int), v45)) ((l301005.getD ((v45).toNat) ([] : LN)).length : Int)))))))) ∧ ((!(mget (l301025.getD ((v45).toNat) ([] : (List ((Int × (Int × Int)) × Int)))) (v14, ((0 : Int), v45))).isSome) = false → VC31_k20 v14 X7 l301005 l301025)))) ∧ ((decide ((g.2.2.2.getD (v14).toNat ((0 : Int), ([] : LI))).1 = (v4 - g.1))) = false → VC31_k19 v14 X7 l301005 l301025)))) ∧ ((decide (v14 < (g.2.2.2.length : Int))) = false → VC31_k18 i X5 l301005 l301025))
def VC31_k11 (g : TG) (v45 : Int) (i : Int) (l301004 : (List LN)) (l301024 : (List (List ((Int × (Int × Int)) × Int)))) (X5 : Int × (List LN) × (List (List ((Int × (Int × Int)) × Int))) → Prop) (v4 : Int) (v5 : Bool) : Prop :=
  (((!v5) = true → (inIdx (((l301004.getD ((v45).toNat) ([] : LN)).getD ((i).toNat) z3).1) g.2.2.2.length ∧ InR (g.1 + (g.2.2.2.getD (((l301004.getD ((v45).toNat) ([] : LN)).getD ((i).toNat) z3).1).toNat ((0 : Int), ([] : LI))).1) ∧ Loop (σ := Int × (List LN) × (List (List ((Int × (Int × Int)) × Int)))) (fun s X => VC31_l6 g v45 i l301004 X5 s.1 s.2.1 s.2.2 X) ((0 : Int), l301004, l301024))) ∧ ((!v5) = false → (((decide (g.1 ≤ v4)) = true → (InR (v4 - g.1) ∧ Loop (σ := Int × (List LN) × (List (List ((Int × (Int × Int)) × Int)))) (fun s X => VC31_l7 g v45 i X5 v4 s.1 s.2.1 s.2.2 X) ((0 : Int), l301004, l301024))) ∧ ((decide (g.1 ≤ v4)) = false → VC31_k17 i X5 l301004 l301024))))
def VC31_l5 (g : TG) (v45 : Int) (l301003 : (List LN)) (X4 : Int × (List LN) × (List (List ((Int × (Int × Int)) × Int))) → Prop) (i : Int) (l301004 : (List LN)) (l301024 : (List (List ((Int × (Int × Int)) × Int)))) (X5 : Int × (List LN) × (List (List ((Int × (Int × Int)) × Int))) → Prop) : Prop :=
  (inIdx v45 l301004.length ∧ (((decide (i < ((l301004.getD ((v45).toNat) ([] : LN)).length : Int))) = true → (inIdx v45 l301004.length ∧ (inIdx i (l301004.getD ((v45).toNat) ([] : LN)).length ∧ (inIdx (((l301004.getD ((v45).toNat) ([] : LN)).getD ((i).toNat) z3).1) g.2.2.2.length ∧ (((decide (((l301004.getD ((v45).toNat) ([] : LN)).getD ((i).toNat) z3).2.1 = (((g.2.2.2.getD (((l301004.getD ((v45).toNat) ([] : LN)).getD ((i).toNat) z3).1).toNat ((0 : Int), ([] : LI))).2).length : Int))) = true → VC31_k11 g v45 i l301004 l301024 X5 (0 : Int) false) ∧ ((decide (((l301004.getD ((v45).toNat) ([] : LN)).getD ((i).toNat) z3).2.1 = (((g.2.2.2.getD (((l301004.getD ((v45).toNat) ([] : LN)).getD ((i).toNat) z3).1).toNat ((0 : Int), ([] : LI))).2).length : Int))) = false → (inIdx (((l301004.getD ((v45).toNat) ([] : LN)).getD ((i).toNat) z3).2.1) ((g.2.2.2.getD (((l301004.getD ((v45).toNat) ([] : LN)).getD ((i).toNat) z3).1).toNat ((0 : Int), ([] : LI))).2).length ∧ VC31_k11 g v45 i l301004 l301024 X5 (((g.2.2.2.getD (((l301004.getD ((v45).toNat) ([] : LN)).getD ((i).toNat) z3).1).toNat ((0 : Int), ([] : LI))).2).getD (((l301004.getD ((v45).toNat) ([] : LN)).getD ((i).toNat) z3).2.1).toNat (0 : Int)) true))))))) ∧ ((decide (i < ((l301004.getD ((v45).toNat) ([] : LN)).length : Int))) = false → VC31_k10 v45 l301003 X4 l301004 l301024)))
def VC31_l4 (g : TG) (w : LI) (K : (List LN) × Int → Prop) (v45 : Int) (X2 : Int × (List LN) × (List (List ((Int × (Int × Int)) × Int))) → Prop) (many : Int) (l301003 : (List LN)) (l301023 : (List (List ((Int × (Int × Int)) × Int)))) (X4 : Int × (List LN) × (List (List ((Int × (Int × Int)) × Int))) → Prop) : Prop :=
  (inIdx v45 l301003.length ∧ (((!decide (many = ((l301003.getD ((v45).toNat) ([] : LN)).length : Int))) = true → (inIdx v45 l301003.length ∧ Loop (σ := Int × (List LN) × (List (List ((Int × (Int × Int)) × Int)))) (fun s X => VC31_l5 g v45 l301003 X4 s.1 s.2.1 s.2.2 X) ((0 : Int), l301003, l301023))) ∧ ((!decide (many = ((l301003.getD ((v45).toNat) ([] : LN)).length : Int))) = false → VC31_k5 g w K v45 X2 l301003 l301023)))
def VC31_l2 (g : TG) (w : LI) (K : (List LN) × Int → Prop) (l30100 : (List LN)) (v45 : Int) (l301002 : (List LN)) (l301022 : (List (List ((Int × (Int × Int)) × Int)))) (X2 : Int × (List LN) × (List (List ((Int × (Int × Int)) × Int))) → Prop) : Prop :=
  (((decide (v45 < (l30100.length : Int))) = true → Loop (σ := Int × (List LN) × (List (List ((Int × (Int × Int)) × Int)))) (fun s X => VC31_l4 g w K v45 X2 s.1 s.2.1 s.2.2 X) ((-1 : Int), l301002, l301022)) ∧ ((decide (v45 < (l30100.length : Int))) = false → VC31_k3 K l301002 l301022))
def VC31_k2 (g : TG) (w : LI) (K : (List LN) × Int → Prop) (l30100 : (List LN)) (l30102 : (List (List ((Int × (Int × Int)) × Int)))) : Prop :=
  Loop (σ := Int × (List LN) × (List (List ((Int × (Int × Int)) × Int)))) (fun s X => VC31_l2 g w K l30100 s.1 s.2.1 s.2.2 X) ((0 : Int), l30100, l30102)
def VC31_k21 (v14 : Int) (X8 : Int × (List LN) × (List (List ((Int × (Int × Int)) × Int))) → Prop) (l301002 : (List LN)) (l301022 : (List (List ((Int × (Int × Int)) × Int)))) : Prop :=
  (InR (v14 + (1 : Int)) ∧ X8 ((v14 + (1 : Int)), l301002, l301022))
def VC31_k22 (v14 : Int) (X8 : Int × (List LN) × (List (List ((Int × (Int × Int)) × Int))) → Prop) (l301002 : (List LN)) (l301022 : (List (List ((Int × (Int × Int)) × Int)))) : Prop :=
  VC31_k21 v14 X8 l301002 l301022
def VC31_l8 (g : TG) (w : LI) (K : (List LN) × Int → Prop) (v14 : Int) (l30100 : (List LN)) (l30102 : (List (List ((Int × (Int × Int)) × Int)))) (X8 : Int × (List LN) × (List (List ((Int × (Int × Int)) × Int))) → Prop) : Prop :=
  (((decide (v14 < (g.2.2.2.length : Int))) = true → (inIdx v14 g.2.2.2.length ∧ (((decide ((g.2.2.2.getD (v14).toNat ((0 : Int), ([] : LI))).1 = g.2.2.1)) = true → (inIdx (0 : Int) l30102.length ∧ (((!(mget (l30102.getD (((0 : Int)).toNat) ([] : (List ((Int × (Int × Int)) × Int)))) (v14, ((0 : Int), (0 : Int)))).isSome) = true → (inIdx (0 : Int) l30102.length ∧ inIdx (0 : Int) l30100.length ∧ (inIdx (0 : Int) l30100.length ∧ (roomN ((l30100.getD (((0 : Int)).toNat) ([] : LN)).length + [(v14, ((0 : Int), (0 : Int)))].length) ∧ (inIdx (0 : Int) l30100.length ∧ VC31_k22 v14 X8 (l30100.set (((0 : Int)).toNat) ((l30100.getD (((0 : Int)).toNat) ([] : LN)) ++ [(v14, ((0 : Int), (0 : Int)))])) (l30102.set (((0 : Int)).toNat) (mset (l30102.getD (((0 : Int)).toNat) ([] : (List ((Int × (Int × Int)) × Int)))) (v14, ((0 : Int), (0 : Int))) ((l30100.getD (((0 : Int)).toNat) ([] : LN)).length : Int)))))))) ∧ ((!(mget (l30102.getD (((0 : Int)).toNat) ([] : (List ((Int × (Int × Int)) × Int)))) (v14, ((0 : Int), (0 : Int)))).isSome) = false → VC31_k22 v14 X8 l30100 l30102)))) ∧ ((decide ((g.2.2.2.getD (v14).toNat ((0 : Int), ([] : LI))).1 = g.2.2.1)) = false → VC31_k21 v14 X8 l30100 l30102)))) ∧ ((decide (v14 < (g.2.2.2.length : Int))) = false → VC31_k2 g w K l30100 l30102))
def VC31_k1 (g : TG) (w : LI) (K : (List LN) × Int → Prop) (l6105 : (List (List ((Int × (Int × Int)) × Int)))) : Prop :=
  Loop (σ := Int × (List LN) × (List (List ((Int × (Int × Int)) × Int)))) (fun s X => VC31_l8 g w K s.1 s.2.1 s.2.2 X) ((0 : Int), (List.replicate (((w.length : Int) + (1 : Int))).toNat ([] : LN)), l6105)
def VC31_l9 (g : TG) (w : LI) (K : (List LN) × Int → Prop) (v23 : Int) (l6105 : (List (List ((Int × (Int × Int)) × Int)))) (X9 : Int × (List (List ((Int × (Int × Int)) × Int))) → Prop) : Prop :=
  (((decide (v23 < ((List.replicate (((w.length : Int) + (1 : Int))).toNat ([] : LN)).length : Int))) = true → (roomN (l6105.length + [([] : List ((Int × (Int × Int)) × Int))].length) ∧ (InR (v23 + (1 : Int)) ∧ X9 ((v23 + (1 : Int)), (l6105 ++ [([] : List ((Int × (Int × Int)) × Int))]))))) ∧ ((decide (v23 < ((List.replicate (((w.length : Int) + (1 : Int))).toNat ([] : LN)).length : Int))) = false → VC31_k1 g w K l6105))
def VC31 (g : TG) (w : LI) (K : (List LN) × Int → Prop) : Prop :=
  VC44 g w (fun (ret12v : Int) => (((!decide (ret12v = (0 : Int))) = true → K (([] : (List LN)), ret12v)) ∧ ((!decide (ret12v = (0 : Int))) = false → (InR ((w.length : Int) + (1 : Int)) ∧ (room ((w.length : Int) + (1 : Int)) ∧ Loop (σ := Int × (List (List ((Int × (Int × Int)) × Int)))) (fun s X => VC31_l9 g w K s.1 s.2 X) ((0 : Int), ([] : List (List ((Int × (Int × Int)) × Int)))))))))
set_option maxHeartbeats 4000000 in
theorem link31 (g : TG) (w : LI) (K : (List LN) × Int → Prop) (h : VC31 g w K) : ACalls Try.prog 31 [toV1 tG g, toV1 (.sl tI) w] (fun res => ∃ y, res = (fun y => [toV1 (.sl (.sl t3)) y.1, toV1 tI y.2]) y ∧ K y) := by
 refine acalls_of_aw [(.sl (.sl t3)), tI] [.t 4, .t 5] Try.func31 rfl rfl rfl ?_
 unfold VC31 at h
 refine srn 3 ⟨32, [e31_75 w, sp 2 2], [e31_21 g]⟩ (by kernel_rfl) rfl ?_
 refine aw_seq ?_
 refine sr ?_
 refine rqT 2 ⟨32, [e31_75 w, sp 2 2, sA 10 [.pI g.1, .pI g.2.1, .pI g.2.2.1, .p (.sl tR) g.2.2.2], s1 11 (.pS w)], [e31_21 g]⟩ (by kernel_rfl) ?_
 refine lcq (d := 12) [.d tG, .d (.sl tI)] (fun ret12v => (⟨32, [e31_75 w, sp 2 2, sI 12 ret12v], [e31_21 g]⟩ : St)) (by kernel_rfl) Try.call44 (fun _ => by kernel_rfl) (link44 g w _ h) (fun ret12v h => ?_)
 refine rqT 1 ⟨32, [e31_75 w, sp 2 2, sI 6 ret12v], [e31_21 g]⟩ (by kernel_rfl) ?_
 refine nsr ?_
 refine rqT 2 ⟨32, [e31_75 w, sp 2 2, sI 6 ret12v, sB 14 (!decide (ret12v = (0 : Int)))], [e31_21 g]⟩ (by kernel_rfl) ?_
 refine nn ?_
 refine aw_cond (b := (!decide (ret12v = (0 : Int)))) (by kernel_rfl) (fun hb => ?_) (fun hb => ?_)
 ·have h := h.1 hb
  refine srn 3 ⟨32, [s1 4 (.nils), sI 5 ret12v], []⟩ (by kernel_rfl) rfl ?_
  refine aw_ret ?_
  refine thenQ_r ?_
  exact retQ_r (ob := Ts 2 True) _ (by kernel_rfl) (tsI 2 trivial) h
 ·have h := h.2 hb
  refine aw_skip ?_
  refine thenQ_n ?_
  refine sr ?_
  refine rqT 2 ⟨32, [sA 16 [.pI g.1, .pI g.2.1, .pI g.2.2.1, .p (.sl tR) g.2.2.2], s1 17 (.pS w)], []⟩ (by kernel_rfl) ?_
  refine awl_inlr [.t 4] [] [.agg [.pI g.1, .pI g.2.1, .pI g.2.2.1, .p (.sl tR) g.2.2.2], .c (.pS w)] [] rfl rfl (by kernel_rfl) rfl (by kernel_rfl) Try.call62 (by kernel_rfl) (by kernel_rfl) Try.func62 rfl rfl (by kernel_rfl) ?_
  refine aw_conv [] (st' := (⟨97, [sA 0 [.pI g.1, .pI g.2.1, .pI g.2.2.1, .p (.sl tR) g.2.2.2], e31_75 w, sA 113 [.pI g.1, .pI g.2.1, .pI g.2.2.1, .p (.sl tR) g.2.2.2], s1 114 (.pS w)], []⟩ : St)) (by kernel_rfl) ?_
  refine srn 2 ⟨97, [e31_75 w, sp 2 2], [e31_21 g]⟩ (by kernel_rfl) rfl ?_
  refine aw_seq ?_
  refine awd_begin [] (by kernel_rfl) ?_
  obtain ⟨o1, h⟩ := h
  refine drq (by kernel_rfl) [0, 1, 2, 3] (ob := (Ts 3 (InR ((w.length : Int) + (1 : Int)) ∧ True))) (done' := [3, 2, 1, 0]) (st' := (⟨97, [e31_75 w, sp 2 2, e31_158 g, sI 14 ((w.length : Int) + (1 : Int))], [e31_21 g]⟩ : St)) (by kernel_rfl) (tsI 3 ⟨o1, trivial⟩) ?_
  refine awd_one (i := 4) (by kernel_rfl) ?_
  obtain ⟨o1, h⟩ := h
  refine dmk 15 [] (.deep 110 113 (.sl t3) (List.replicate (((w.length : Int) + (1 : Int))).toNat ([] : LN)) []) (ob := room ((w.length : Int) + (1 : Int))) rfl rfl rfl (by kernel_rfl) (by kernel_rfl) (by kernel_rfl) o1 ?_
  refine dpr (st' := (⟨97, [e31_75 w, sp 2 2, e31_158 g, s1 15 (.own 15)], [e31_21 g, e31_23 w]⟩ : St)) (by kernel_rfl) ?_
  refine drq (by kernel_rfl) [5] (ob := (Ts 1 True)) (done' := [5, 4, 3, 2, 1, 0]) (st' := (⟨97, [e31_75 w, sp 2 2, sA 16 [.pI g.1, .pI g.2.1, .pI g.2.2.1, .p (.sl tR) g.2.2.2, .own 15, .nils]], [e31_21 g, e31_23 w]⟩ : St)) (by kernel_rfl) (tsI 1 trivial) ?_
  refine awd_one (i := 6) (by kernel_rfl) ?_
  refine dsq (ob := True) (st' := (⟨97, [e31_75 w, sp 2 2, sp 17 17], [e31_21 g, e31_23 w, e31_130 g]⟩ : St)) rfl (by kernel_rfl) trivial ?_
  refine drq (by kernel_rfl) [7] (ob := (Ts 1 True)) (done' := [7, 6, 5, 4, 3, 2, 1, 0]) (st' := (⟨97, [e31_75 w, sp 2 2, sp 5 17], [e31_21 g, e31_23 w, e31_130 g]⟩ : St)) (by kernel_rfl) (tsI 1 trivial) ?_
  refine awd_done (by kernel_rfl) ?_
  refine thenQ_n ?_
  refine aw_seq ?_
  refine srn 6 ⟨97, [e31_75 w, sp 2 2, sp 5 17, e31_48 w, sI 23 (0 : Int)], [e31_21 g, e31_23 w, e31_130 g]⟩ (by kernel_rfl) rfl ?_
  refine withJoin (σ := (List (List ((Int × (Int × Int)) × Int)))) (fun s => (⟨97, [e31_75 w, sp 2 2, sp 5 17], [e31_21 g, e31_23 w, e31_42 g, (6105, [], .deep 141 0 (.mp t3 tI) s [])]⟩ : St)) (fun s => VC31_k1 g w K s) (fun l6105 h => ?_) (fun rest22 => ?_)
  ·have h : VC31_k1 g w K l6105 := h
   unfold VC31_k1 at h
   refine thenQ_n ?_
   refine sr ?_
   refine rqT 3 ⟨97, [e31_75 w, sp 5 17, sp 36 17, sI 38 g.2.2.1], [e31_23 w, e31_42 g, e31_139 l6105]⟩ (by kernel_rfl) ?_
   refine awl_conv [.ren 15 30100, .ren 17 30101, .ren 6105 30102] (st' := (⟨97, [e31_75 w, e31_131, sp 36 30101, sI 38 g.2.2.1], [e31_132 w, e31_0 g, (30102, [], .deep 141 0 (.mp t3 tI) l6105 [])]⟩ : St)) (by kernel_rfl) ?_
   refine awl_inlr [] [30100, 30101, 30102] [.c (.ptr 30101 0), .c (.pI (0 : Int)), .c (.pI g.2.2.1)] [] rfl rfl (by kernel_rfl) rfl (by kernel_rfl) Try.call89 (by kernel_rfl) (by kernel_rfl) Try.func89 rfl rfl (by kernel_rfl) ?_
   refine aw_conv [] (st' := (⟨30, [e31_32, e31_114, sI 2 g.2.2.1, s1 31 (.pS w), e31_168, sp 66 30101, sI 68 g.2.2.1], [e31_132 w, e31_0 g, (30102, [], .deep 141 0 (.mp t3 tI) l6105 [])]⟩ : St)) (by kernel_rfl) ?_
   refine srn 7 ⟨30, [e31_32, e31_114, sI 2 g.2.2.1, e31_39 g, e31_84 g, sI 14 (0 : Int), s1 31 (.pS w), e31_168], [e31_132 w, e31_0 g, (30102, [], .deep 141 0 (.mp t3 tI) l6105 [])]⟩ (by kernel_rfl) rfl ?_
   refine withJoin (σ := (List LN) × (List (List ((Int × (Int × Int)) × Int)))) (fun s => (⟨30, [s1 31 (.pS w), e31_168], [(30100, [], .deep 110 113 (.sl t3) s.1 []), e31_0 g, (30102, [], .deep 141 0 (.mp t3 tI) s.2 [])]⟩ : St)) (fun s => VC31_k2 g w K s.1 s.2) (fun s h => ?_) (fun rest19 => ?_)
   ·obtain ⟨l30100, l30102⟩ := s
    have h : VC31_k2 g w K l30100 l30102 := h
    unfold VC31_k2 at h
    refine inlR_n (ob := True) (.tup []) (by kernel_rfl) trivial rfl ?_
    refine lpr (st' := (⟨97, [e31_75 w, e31_131], [e31_49 l30100, e31_0 g, e31_60 l30102]⟩ : St)) (by kernel_rfl) ?_
    refine nn ?_
    refine aw_seq ?_
    refine srn 6 ⟨97, [e31_75 w, e31_131, e31_70 l30100, sI 45 (0 : Int)], [e31_49 l30100, e31_0 g, e31_60 l30102]⟩ (by kernel_rfl) rfl ?_
    refine withJoin (σ := (List LN) × (List (List ((Int × (Int × Int)) × Int)))) (fun s => (⟨97, [e31_131], [(30100, [], .deep 110 113 (.sl t3) s.1 []), e31_0 g, (30102, [], .deep 141 0 (.mp t3 tI) s.2 [])]⟩ : St)) (fun s => VC31_k3 K s.1 s.2) (fun s h => ?_) (fun rest2 => ?_)
    ·obtain ⟨l301002, l301022⟩ := s
     have h : VC31_k3 K l301002 l301022 := h
     unfold VC31_k3 at h
     refine thenQ_n ?_
     refine srn 2 ⟨97, [sp 4 30101], [e31_86 l301002, e31_0 g, e31_85 l301022]⟩ (by kernel_rfl) rfl ?_
     refine aw_ret ?_
     refine inlR_r (ob := True) (.v (.c (.ptr 30101 0))) (by kernel_rfl) trivial rfl ?_
     refine lpr (st' := (⟨32, [sp 18 30101], [e31_86 l301002, e31_0 g, e31_85 l301022]⟩ : St)) (by kernel_rfl) ?_
     refine rqT 4 ⟨32, [e31_144], [e31_86 l301002]⟩ (by kernel_rfl) ?_
     refine nn ?_
     refine aw_seq ?_
     refine srn 3 ⟨32, [e31_144, e31_152, e31_133 l301002, sI 24 (0 : Int)], [e31_86 l301002]⟩ (by kernel_rfl) rfl ?_
     refine withJoin (σ := (List LN)) (fun s => (⟨32, [e31_144], [(30100, [], .deep 110 113 (.sl t3) s [])]⟩ : St)) (fun s => VC31_k4 K s) (fun out h => ?_) (fun rest1 => ?_)
     ·have h : VC31_k4 K out := h
      unfold VC31_k4 at h
      refine thenQ_n ?_
      refine srn 3 ⟨32, [s1 4 (.own 30100), sI 5 (0 : Int)], [e31_163 out]⟩ (by kernel_rfl) rfl ?_
      refine cfd 30100 (ob := True) (C := []) (st' := (⟨32, [s1 4 (.p (.sl (.sl t3)) out), sI 5 (0 : Int)], []⟩ : St)) (by kernel_rfl) trivial ?_
      refine aw_ret ?_
      exact retQ_r (ob := Ts 2 True) _ (by kernel_rfl) (tsI 2 trivial) h
     ·refine aw_block ?_
      refine aw_loop (σ := Int × (List LN)) (fun s => (⟨32, [e31_144, e31_152, e31_133 l301002, sI 24 s.1], [(30100, [], .deep 110 113 (.sl t3) s.2 [])]⟩ : St)) (fun s X => VC31_l1 K l301002 s.1 s.2 X) (s0 := ((0 : Int), l301002)) (fun s X1 h => ?_) h
      obtain ⟨v24, out⟩ := s
      have h : VC31_l1 K l301002 v24 out X1 := h
      unfold VC31_l1 at h
      refine srn 1 ⟨32, [e31_144, e31_152, e31_133 l301002, sI 24 v24, sB 25 (decide (v24 < (l301002.length : Int)))], [e31_163 out]⟩ (by kernel_rfl) rfl ?_
      refine aw_seq ?_
      refine aw_cond (b := (decide (v24 < (l301002.length : Int)))) (by kernel_rfl) (fun hb => ?_) (fun hb => ?_)
      ·have h := h.1 hb
       refine aw_skip ?_
       refine thenQ_n ?_
       refine aw_seq ?_
       refine aw_block ?_
       refine sr ?_
       obtain ⟨o1, h⟩ := h
       refine rq 1 (ob := (inIdx v24 out.length ∧ True)) (st' := (⟨32, [e31_144, e31_152, e31_133 l301002, sI 24 v24, s1 26 (.el 30100 ((v24).toNat) 1)], [e31_163 out]⟩ : St)) (by kernel_rfl) (⟨o1, trivial⟩) ?_
       refine lop 26 82000 [82001] (ob := True) (C := [(82001, 30100)]) (st' := (⟨32, [s1 26 (.ep 30100 82000 0), e31_144, e31_152, e31_133 l301002, sI 24 v24], [hA 82001 113 t3 (out.getD ((v24).toNat) ([] : LN)), e31_109 out v24]⟩ : St)) (by kernel_rfl) trivial ?_
       refine rqT 2 ⟨32, [e31_144, s1 9 (.own 82001), e31_152, e31_133 l301002, sI 24 v24], [e31_109 out v24, hA 82001 113 t3 (out.getD ((v24).toNat) ([] : LN))]⟩ (by kernel_rfl) ?_
       refine nn ?_
       refine aw_region ?_
       refine rqT 1 ⟨32, [e31_144, e31_152, e31_133 l301002, sI 24 v24, e31_167], [e31_109 out v24, hA 82001 113 t3 (out.getD ((v24).toNat) ([] : LN))]⟩ (by kernel_rfl) ?_
       refine awl_lcall (σ := List (Int × (Int × Int))) [82001] [82001] [.c (.own 82001), .c (.fn 64 [])] [] (fun _ => .tup []) (fun srtv => [(82001, [], .arr 113 t3 srtv)]) (fun (srtv : List (Int × (Int × Int))) => (InR (v24 + (1 : Int)) ∧ X1 ((v24 + (1 : Int)), (out.set ((v24).toNat) srtv)))) [(82001, [], .arr 113 t3 (out.getD ((v24).toNat) ([] : LN)))] (fun srtv => (⟨32, [(29, [], .tup []), e31_144, e31_152, e31_133 l301002, sI 24 v24, e31_167], [hA 82001 113 t3 srtv, e31_109 out v24]⟩ : St)) rfl rfl (by kernel_rfl) rfl (by kernel_rfl) Try.call63 (by kernel_rfl) (by kernel_rfl) (by kernel_rfl) (fun _ _ => rfl) (fun _ => by kernel_rfl) (lcalls_sortKF Try.sort63 t3 rfl (by decide) Try.sort63a Try.sort63z 113 82001 _ _ (⟨Try.call64, fun x K h => link64 x.1 x.2 K h⟩) h) (fun srtv h => ?_)
       refine lpr (st' := (⟨32, [e31_144, e31_152, e31_133 l301002, sI 24 v24], [e31_109 out v24, hA 82001 113 t3 srtv]⟩ : St)) (by kernel_rfl) ?_
       refine lcl 30100 82000 false (ob := True) (C := [(30100, 82001)]) (st' := (⟨32, [e31_144, e31_152, e31_133 l301002, sI 24 v24], [(30100, [], .deep 110 113 (.sl t3) (out.set ((v24).toNat) srtv) [])]⟩ : St)) (by kernel_rfl) trivial ?_
       refine awl_nil ?_
       refine blockQ_n ?_
       refine thenQ_n ?_
       refine aw_region ?_
       obtain ⟨o1, h⟩ := h
       refine rq 2 (ob := (InR (v24 + (1 : Int)) ∧ Ts 1 True)) (st' := (⟨32, [e31_144, e31_152, e31_133 l301002, sI 24 (v24 + (1 : Int))], [(30100, [], .deep 110 113 (.sl t3) (out.set ((v24).toNat) srtv) [])]⟩ : St)) (by kernel_rfl) (⟨o1, tsI 1 trivial⟩) ?_
       refine awl_nil ?_
       exact thenQ_n ⟨((v24 + (1 : Int)), (out.set ((v24).toNat) srtv)), rfl, h⟩
      ·have h := h.2 hb
       refine cpr (st' := (⟨32, [e31_144], [e31_163 out]⟩ : St)) (by kernel_rfl) ?_
       refine aw_exit ?_
       refine thenQ_x ?_
       refine thenQ_x ?_
       refine blockQ_hit ?_
       exact rest1 out h
    ·refine aw_block ?_
     refine aw_loop (σ := Int × (List LN) × (List (List ((Int × (Int × Int)) × Int)))) (fun s => (⟨97, [e31_75 w, e31_131, e31_70 l30100, sI 45 s.1], [(30100, [], .deep 110 113 (.sl t3) s.2.1 []), e31_0 g, (30102, [], .deep 141 0 (.mp t3 tI) s.2.2 [])]⟩ : St)) (fun s X => VC31_l2 g w K l30100 s.1 s.2.1 s.2.2 X) (s0 := ((0 : Int), l30100, l30102)) (fun s X2 h => ?_) h
     obtain ⟨v45, l301002, l301022⟩ := s
     have h : VC31_l2 g w K l30100 v45 l301002 l301022 X2 := h
     unfold VC31_l2 at h
     refine srn 1 ⟨97, [e31_75 w, e31_131, e31_70 l30100, sI 45 v45, sB 46 (decide (v45 < (l30100.length : Int)))], [e31_86 l301002, e31_0 g, e31_85 l301022]⟩ (by kernel_rfl) rfl ?_
     refine aw_seq ?_
     refine aw_cond (b := (decide (v45 < (l30100.length : Int)))) (by kernel_rfl) (fun hb => ?_) (fun hb => ?_)
     ·have h := h.1 hb
      refine aw_skip ?_
      refine thenQ_n ?_
      refine aw_seq ?_
      refine aw_block ?_
      refine sr ?_
      refine rqT 2 ⟨97, [e31_75 w, e31_131, sI 6 v45, e31_70 l30100, sI 45 v45], [e31_86 l301002, e31_0 g, e31_85 l301022]⟩ (by kernel_rfl) ?_
      refine nsr ?_
      refine rqT 2 ⟨97, [e31_75 w, e31_131, sI 6 v45, e31_70 l30100, sI 45 v45, sp 48 30101, sI 49 v45], [e31_86 l301002, e31_0 g, e31_85 l301022]⟩ (by kernel_rfl) ?_
      refine awl_inlr [] [30100, 30101, 30102] [.c (.ptr 30101 0), .c (.pI v45)] [] rfl rfl (by kernel_rfl) rfl (by kernel_rfl) Try.call90 (by kernel_rfl) (by kernel_rfl) Try.func90 rfl rfl (by kernel_rfl) ?_
      refine aw_conv [] (st' := (⟨78, [e31_32, sI 1 v45, e31_89 w, e31_100, sI 84 v45, e31_44 l30100, sI 123 v45, sp 126 30101, sI 127 v45], [e31_86 l301002, e31_0 g, e31_85 l301022]⟩ : St)) (by kernel_rfl) ?_
      refine srn 1 ⟨78, [e31_32, sI 1 v45, sI 4 (-1 : Int), e31_89 w, e31_100, sI 84 v45, e31_44 l30100, sI 123 v45], [e31_86 l301002, e31_0 g, e31_85 l301022]⟩ (by kernel_rfl) rfl ?_
      refine withJoin (σ := (List LN) × (List (List ((Int × (Int × Int)) × Int)))) (fun s => (⟨78, [e31_89 w, e31_100, sI 84 v45, e31_44 l30100, sI 123 v45], [(30100, [], .deep 110 113 (.sl t3) s.1 []), e31_0 g, (30102, [], .deep 141 0 (.mp t3 tI) s.2 [])]⟩ : St)) (fun s => VC31_k5 g w K v45 X2 s.1 s.2) (fun s h => ?_) (fun rest7 => ?_)
      ·obtain ⟨l301003, l301023⟩ := s
       have h : VC31_k5 g w K v45 X2 l301003 l301023 := h
       unfold VC31_k5 at h
       refine inlR_n (ob := True) (.tup []) (by kernel_rfl) trivial rfl ?_
       refine lpr (st' := (⟨97, [e31_75 w, e31_131, sI 6 v45, e31_70 l30100, sI 45 v45], [e31_93 l301003, e31_0 g, e31_51 l301023]⟩ : St)) (by kernel_rfl) ?_
       refine nn ?_
       refine aw_seq ?_
       refine srn 4 ⟨97, [e31_75 w, e31_131, sI 6 v45, e31_70 l30100, sI 45 v45, sB 54 (decide (v45 = (w.length : Int)))], [e31_93 l301003, e31_0 g, e31_51 l301023]⟩ (by kernel_rfl) rfl ?_
       refine aw_cond (b := (decide (v45 = (w.length : Int)))) (by kernel_rfl) (fun hb => ?_) (fun hb => ?_)
       ·have h := h.1 hb
        refine cpr (st' := (⟨97, [e31_131], [e31_93 l301003, e31_0 g, e31_51 l301023]⟩ : St)) (by kernel_rfl) ?_
        refine aw_exit ?_
        refine thenQ_x ?_
        refine blockQ_miss rfl ?_
        refine thenQ_x ?_
        refine thenQ_x ?_
        refine blockQ_hit ?_
        exact rest2 (l301003, l301023) h
       ·have h := h.2 hb
        refine aw_skip ?_
        refine thenQ_n ?_
        refine sr ?_
        obtain ⟨o1, h⟩ := h
        refine rq 6 (ob := (Ts 5 (inIdx v45 l301003.length ∧ True))) (st' := (⟨97, [e31_75 w, e31_131, sI 6 v45, e31_70 l30100, sI 45 v45, s1 60 (.el 30100 ((v45).toNat) 1)], [e31_93 l301003, e31_0 g, e31_51 l301023]⟩ : St)) (by kernel_rfl) (tsI 5 ⟨o1, trivial⟩) ?_
        refine lop 60 82000 [82001] (ob := True) (C := [(82001, 30100)]) (st' := (⟨97, [s1 60 (.ep 30100 82000 0), e31_75 w, e31_131, sI 6 v45, e31_70 l30100, sI 45 v45], [e31_12 l301003 v45, e31_90 l301003 v45, e31_0 g, e31_51 l301023]⟩ : St)) (by kernel_rfl) trivial ?_
        refine rqT 3 ⟨97, [e31_75 w, e31_131, sI 6 v45, e31_70 l30100, sI 45 v45, e31_140, e31_58 l301003 v45, sI 63 (0 : Int)], [e31_90 l301003 v45, e31_0 g, e31_51 l301023, e31_12 l301003 v45]⟩ (by kernel_rfl) ?_
        refine nn ?_
        refine withJoin (σ := (List LN) × (List (List ((Int × (Int × Int)) × Int)))) (fun s => (⟨97, [e31_75 w, e31_131, e31_70 l30100, sI 45 v45], [(30100, [], .deep 110 113 (.sl t3) s.1 [(82000, ((v45).toNat), [.own 82001])]), e31_0 g, (30102, [], .deep 141 0 (.mp t3 tI) s.2 []), e31_12 l301003 v45]⟩ : St)) (fun s => VC31_k6 v45 X2 l301003 s.1 s.2) (fun s h => ?_) (fun rest3 => ?_)
        ·obtain ⟨l301004, l301024⟩ := s
         have h : VC31_k6 v45 X2 l301003 l301004 l301024 := h
         unfold VC31_k6 at h
         refine blockQ_n ?_
         refine thenQ_n ?_
         refine aw_region ?_
         obtain ⟨o1, h⟩ := h
         refine rq 2 (ob := (InR (v45 + (1 : Int)) ∧ Ts 1 True)) (st' := (⟨97, [e31_75 w, e31_131, e31_70 l30100, sI 45 (v45 + (1 : Int))], [e31_15 l301004 v45, e31_0 g, e31_11 l301024, e31_12 l301003 v45]⟩ : St)) (by kernel_rfl) (⟨o1, tsI 1 trivial⟩) ?_
         refine lcl 30100 82000 false (ob := True) (C := [(30100, 82001)]) (st' := (⟨97, [e31_75 w, e31_131, e31_70 l30100, sI 45 (v45 + (1 : Int))], [(30100, [], .deep 110 113 (.sl t3) (l301004.set ((v45).toNat) (l301003.getD ((v45).toNat) ([] : LN))) []), e31_0 g, e31_11 l301024]⟩ : St)) (by kernel_rfl) trivial ?_
         refine awl_nil ?_
         exact thenQ_n ⟨((v45 + (1 : Int)), (l301004.set ((v45).toNat) (l301003.getD ((v45).toNat) ([] : LN))), l301024), rfl, h⟩
        ·refine aw_block ?_
         refine aw_loop (σ := Int × (List LN) × (List (List ((Int × (Int × Int)) × Int)))) (fun s => (⟨97, [e31_75 w, e31_131, sI 6 v45, e31_70 l30100, sI 45 v45, e31_140, e31_58 l301003 v45, sI 63 s.1], [(30100, [], .deep 110 113 (.sl t3) s.2.1 [(82000, ((v45).toNat), [.own 82001])]), e31_0 g, (30102, [], .deep 141 0 (.mp t3 tI) s.2.2 []), e31_12 l301003 v45]⟩ : St)) (fun s X => VC31_l3 g w v45 X2 l301003 s.1 s.2.1 s.2.2 X) (s0 := ((0 : Int), l301003, l301023)) (fun s X3 h => ?_) h
         obtain ⟨v63, l301004, l301024⟩ := s
         have h : VC31_l3 g w v45 X2 l301003 v63 l301004 l301024 X3 := h
         unfold VC31_l3 at h
         refine srn 1 ⟨97, [e31_75 w, e31_131, sI 6 v45, e31_70 l30100, sI 45 v45, e31_140, e31_58 l301003 v45, sI 63 v63, sB 64 (decide (v63 < ((l301003.getD ((v45).toNat) ([] : LN)).length : Int)))], [e31_15 l301004 v45, e31_0 g, e31_11 l301024, e31_12 l301003 v45]⟩ (by kernel_rfl) rfl ?_
         refine aw_seq ?_
         refine aw_cond (b := (decide (v63 < ((l301003.getD ((v45).toNat) ([] : LN)).length : Int)))) (by kernel_rfl) (fun hb => ?_) (fun hb => ?_)
         ·have h := h.1 hb
          refine aw_skip ?_
          refine thenQ_n ?_
          refine aw_seq ?_
          refine aw_block ?_
          refine sr ?_
          obtain ⟨o1, h⟩ := h
          refine rq 4 (ob := (inIdx v63 (l301003.getD ((v45).toNat) ([] : LN)).length ∧ Ts 3 True)) (st' := (⟨97, [e31_75 w, e31_131, sI 6 v45, sp 8 8, e31_70 l30100, sI 45 v45, e31_140, e31_58 l301003 v45, sI 63 v63], [e31_96 l301003 v45 v63, e31_15 l301004 v45, e31_0 g, e31_11 l301024, e31_12 l301003 v45]⟩ : St)) (by kernel_rfl) (⟨o1, tsI 3 trivial⟩) ?_
          refine nsr ?_
          refine rqT 2 ⟨97, [e31_75 w, e31_131, sI 6 v45, sp 8 8, e31_70 l30100, sI 45 v45, e31_140, e31_58 l301003 v45, sI 63 v63, sp 68 30101, e31_95 l301003 v45 v63], [e31_96 l301003 v45 v63, e31_15 l301004 v45, e31_0 g, e31_11 l301024, e31_12 l301003 v45]⟩ (by kernel_rfl) ?_
          refine awl_conv [.ren 8 30400] (st' := (⟨97, [e31_75 w, e31_131, sI 6 v45, sp 8 30400, e31_70 l30100, sI 45 v45, e31_140, e31_58 l301003 v45, sI 63 v63, sp 68 30101, e31_95 l301003 v45 v63], [e31_17 l301003 v45 v63, e31_15 l301004 v45, e31_0 g, e31_11 l301024, e31_12 l301003 v45]⟩ : St)) (by kernel_rfl) ?_
          refine awl_inlr [.t 4, .t 5] [30400, 30100, 30101, 30102, 82001] [.c (.ptr 30101 0), .agg [.pI (((l301003.getD ((v45).toNat) ([] : LN)).getD ((v63).toNat) z3).1), .pI (((l301003.getD ((v45).toNat) ([] : LN)).getD ((v63).toNat) z3).2.1), .pI (((l301003.getD ((v45).toNat) ([] : LN)).getD ((v63).toNat) z3).2.2)]] [] rfl rfl (by kernel_rfl) rfl (by kernel_rfl) Try.call91 (by kernel_rfl) (by kernel_rfl) Try.func91 rfl rfl (by kernel_rfl) ?_
          refine aw_conv [] (st' := (⟨27, [e31_32, sA 1 [.pI (((l301003.getD ((v45).toNat) ([] : LN)).getD ((v63).toNat) z3).1), .pI (((l301003.getD ((v45).toNat) ([] : LN)).getD ((v63).toNat) z3).2.1), .pI (((l301003.getD ((v45).toNat) ([] : LN)).getD ((v63).toNat) z3).2.2)], s1 28 (.pS w), sp 32 30101, sI 33 v45, sp 35 30400, e31_156 l30100, sI 72 v45, e31_172, e31_104 l301003 v45, sI 90 v63, sp 95 30101, sA 96 [.pI (((l301003.getD ((v45).toNat) ([] : LN)).getD ((v63).toNat) z3).1), .pI (((l301003.getD ((v45).toNat) ([] : LN)).getD ((v63).toNat) z3).2.1), .pI (((l301003.getD ((v45).toNat) ([] : LN)).getD ((v63).toNat) z3).2.2)]], [e31_17 l301003 v45 v63, e31_15 l301004 v45, e31_0 g, e31_11 l301024, e31_12 l301003 v45]⟩ : St)) (by kernel_rfl) ?_
          refine withJoinR (σ := Int × Bool) (fun s => (⟨27, [sI 4 s.1, sB 5 s.2, s1 28 (.pS w), sp 32 30101, sI 33 v45, sp 35 30400, e31_156 l30100, sI 72 v45, e31_172, e31_104 l301003 v45, sI 90 v63], [e31_15 l301004 v45, e31_0 g, e31_11 l301024, e31_17 l301003 v45 v63, e31_12 l301003 v45]⟩ : St)) (fun s => VC31_k7 w v45 l301003 v63 l301004 l301024 X3 s.1 s.2) (fun s h => ?_) (fun rest6 => ?_)
          ·obtain ⟨v4, v5⟩ := s
           have h : VC31_k7 w v45 l301003 v63 l301004 l301024 X3 v4 v5 := h
           unfold VC31_k7 at h
           refine inlR_n (ob := (True ∧ True ∧ True)) (.tup [.c (.pI v4), .c (.pB v5)]) (by kernel_rfl) ⟨trivial, trivial, trivial⟩ rfl ?_
           refine lpr (st' := (⟨97, [e31_75 w, e31_131, sI 6 v45, sp 8 30400, e31_70 l30100, sI 45 v45, e31_140, e31_58 l301003 v45, sI 63 v63, (70, [], .tup [.c (.pI v4), .c (.pB v5)])], [e31_15 l301004 v45, e31_0 g, e31_11 l301024, e31_17 l301003 v45 v63, e31_12 l301003 v45]⟩ : St)) (by kernel_rfl) ?_
           refine rqT 5 ⟨97, [e31_75 w, e31_131, sI 6 v45, sp 8 30400, sI 9 v4, sB 10 v5, e31_70 l30100, sI 45 v45, e31_140, e31_58 l301003 v45, sI 63 v63], [e31_15 l301004 v45, e31_0 g, e31_11 l301024, e31_17 l301003 v45 v63, e31_12 l301003 v45]⟩ (by kernel_rfl) ?_
           refine nsr ?_
           obtain ⟨o1, h⟩ := h
           refine rq 9 (ob := (Ts 2 (Ti 3 (v5 = true → True) ((v5 = true → inIdx v45 w.length) ∧ Ti 2 (v5 = true → True) (Ts 1 True))))) (st' := (⟨97, [e31_75 w, e31_131, sI 6 v45, sp 8 30400, e31_70 l30100, sI 45 v45, e31_140, e31_58 l301003 v45, sI 63 v63, sB 81 (v5 && (decide (v4 = (w.getD (v45).toNat (0 : Int)))))], [e31_15 l301004 v45, e31_0 g, e31_11 l301024, e31_17 l301003 v45 v63, e31_12 l301003 v45]⟩ : St)) (by kernel_rfl) (tsI 2 (tiI 3 (fun _ => trivial) ⟨o1, tiI 2 (fun _ => trivial) (tsI 1 trivial)⟩)) ?_
           refine nn ?_
           refine withJoin (σ := (List LN) × (List (List ((Int × (Int × Int)) × Int)))) (fun s => (⟨97, [e31_75 w, e31_131, sI 6 v45, e31_70 l30100, sI 45 v45, e31_140, e31_58 l301003 v45, sI 63 v63], [(30100, [], .deep 110 113 (.sl t3) s.1 [(82000, ((v45).toNat), [.own 82001])]), e31_0 g, (30102, [], .deep 141 0 (.mp t3 tI) s.2 []), e31_12 l301003 v45]⟩ : St)) (fun s => VC31_k8 v63 X3 s.1 s.2) (fun s h => ?_) (fun rest4 => ?_)
           ·obtain ⟨l301005, l301025⟩ := s
            have h : VC31_k8 v63 X3 l301005 l301025 := h
            unfold VC31_k8 at h
            refine blockQ_n ?_
            refine thenQ_n ?_
            refine aw_region ?_
            obtain ⟨o1, h⟩ := h
            refine rq 2 (ob := (InR (v63 + (1 : Int)) ∧ Ts 1 True)) (st' := (⟨97, [e31_75 w, e31_131, sI 6 v45, e31_70 l30100, sI 45 v45, e31_140, e31_58 l301003 v45, sI 63 (v63 + (1 : Int))], [e31_41 l301005 v45, e31_0 g, e31_16 l301025, e31_12 l301003 v45]⟩ : St)) (by kernel_rfl) (⟨o1, tsI 1 trivial⟩) ?_
            refine awl_nil ?_
            exact thenQ_n ⟨((v63 + (1 : Int)), l301005, l301025), rfl, h⟩
           ·refine aw_cond (b := (v5 && (decide (v4 = (w.getD (v45).toNat (0 : Int)))))) (by kernel_rfl) (fun hb => ?_) (fun hb => ?_)
            ·have h := h.1 hb
             refine aw_region ?_
             obtain ⟨o1, o2, h⟩ := h
             refine rq 11 (ob := (Ts 2 (InR (v45 + (1 : Int)) ∧ Ts 4 (InR (((l301003.getD ((v45).toNat) ([] : LN)).getD ((v63).toNat) z3).2.1 + (1 : Int)) ∧ Ts 3 True)))) (st' := (⟨97, [e31_75 w, e31_131, sI 6 v45, e31_70 l30100, sI 45 v45, e31_140, e31_58 l301003 v45, sI 63 v63, sp 82 30101, sI 84 (v45 + (1 : Int)), sA 92 [.pI (((l301003.getD ((v45).toNat) ([] : LN)).getD ((v63).toNat) z3).1), .pI (((l301003.getD ((v45).toNat) ([] : LN)).getD ((v63).toNat) z3).2.1 + (1 : Int)), .pI (((l301003.getD ((v45).toNat) ([] : LN)).getD ((v63).toNat) z3).2.2)]], [e31_15 l301004 v45, e31_0 g, e31_11 l301024, e31_12 l301003 v45]⟩ : St)) (by kernel_rfl) (tsI 2 (⟨o1, tsI 4 ⟨o2, tsI 3 trivial⟩⟩)) ?_
             refine awl_inlr [] [30100, 30101, 30102, 82001] [.c (.ptr 30101 0), .c (.pI (v45 + (1 : Int))), .agg [.pI (((l301003.getD ((v45).toNat) ([] : LN)).getD ((v63).toNat) z3).1), .pI (((l301003.getD ((v45).toNat) ([] : LN)).getD ((v63).toNat) z3).2.1 + (1 : Int)), .pI (((l301003.getD ((v45).toNat) ([] : LN)).getD ((v63).toNat) z3).2.2)]] [] rfl rfl (by kernel_rfl) rfl (by kernel_rfl) Try.call92 (by kernel_rfl) (by kernel_rfl) Try.func92 rfl rfl (by kernel_rfl) ?_
             refine aw_conv [] (st' := (⟨54, [e31_32, e31_122 v45, sA 2 [.pI (((l301003.getD ((v45).toNat) ([] : LN)).getD ((v63).toNat) z3).1), .pI (((l301003.getD ((v45).toNat) ([] : LN)).getD ((v63).toNat) z3).2.1 + (1 : Int)), .pI (((l301003.getD ((v45).toNat) ([] : LN)).getD ((v63).toNat) z3).2.2)], e31_110 w, e31_125, sI 60 v45, e31_65 l30100, sI 99 v45, e31_82, e31_24 l301003 v45, sI 117 v63, sp 136 30101, sI 138 (v45 + (1 : Int)), sA 146 [.pI (((l301003.getD ((v45).toNat) ([] : LN)).getD ((v63).toNat) z3).1), .pI (((l301003.getD ((v45).toNat) ([] : LN)).getD ((v63).toNat) z3).2.1 + (1 : Int)), .pI (((l301003.getD ((v45).toNat) ([] : LN)).getD ((v63).toNat) z3).2.2)]], [e31_15 l301004 v45, e31_0 g, e31_11 l301024, e31_12 l301003 v45]⟩ : St)) (by kernel_rfl) ?_
             refine srn 1 ⟨54, [e31_32, e31_122 v45, sp 5 5, e31_110 w, e31_125, sI 60 v45, e31_65 l30100, sI 99 v45, e31_82, e31_24 l301003 v45, sI 117 v63], [e31_8 l301003 v45 v63, e31_15 l301004 v45, e31_0 g, e31_11 l301024, e31_12 l301003 v45]⟩ (by kernel_rfl) rfl ?_
             refine aw_seq ?_
             refine awd_begin [] (by kernel_rfl) ?_
             obtain ⟨o1, h⟩ := h
             refine drq (by kernel_rfl) e31_n12 (ob := (Ts 5 (inIdx (v45 + (1 : Int)) l301024.length ∧ Ts 1 True))) (done' := e31_n13) (st' := (⟨54, [e31_32, e31_122 v45, sp 5 5, s1 14 (.el 30102 (((v45 + (1 : Int))).toNat) 1), e31_92 l301003 v45 v63, e31_110 w, e31_125, sI 60 v45, e31_65 l30100, sI 99 v45, e31_82, e31_24 l301003 v45, sI 117 v63], [e31_8 l301003 v45 v63, e31_15 l301004 v45, e31_0 g, e31_11 l301024, e31_12 l301003 v45]⟩ : St)) (by kernel_rfl) (tsI 5 ⟨o1, tsI 1 trivial⟩) ?_
             refine dop 14 82010 [82011] (ob := True) (C := [(82011, 30102)]) (st' := (⟨54, [s1 14 (.ep 30102 82010 0), e31_32, e31_122 v45, sp 5 5, e31_92 l301003 v45 v63, e31_110 w, e31_125, sI 60 v45, e31_65 l30100, sI 99 v45, e31_82, e31_24 l301003 v45, sI 117 v63], [e31_59 l301024 v45, e31_8 l301003 v45 v63, e31_15 l301004 v45, e31_0 g, e31_47 l301024 v45, e31_12 l301003 v45]⟩ : St)) (by kernel_rfl) (by kernel_rfl) trivial ?_
             refine drq (by kernel_rfl) e31_n11 (ob := (Ts 7 True)) (done' := e31_n4) (st' := (⟨54, [e31_32, e31_122 v45, sp 5 5, e31_79 l301024 v45 l301003 v63, e31_110 w, e31_125, sI 60 v45, e31_65 l30100, sI 99 v45, e31_82, e31_24 l301003 v45, sI 117 v63], [e31_8 l301003 v45 v63, e31_15 l301004 v45, e31_0 g, e31_47 l301024 v45, e31_12 l301003 v45, e31_59 l301024 v45]⟩ : St)) (by kernel_rfl) (tsI 7 trivial) ?_
             refine dcl 30102 82010 true (ob := (l301024.getD (((v45 + (1 : Int))).toNat) ([] : (List ((Int × (Int × Int)) × Int)))) = l301024.getD (((v45 + (1 : Int))).toNat) ([] : (List ((Int × (Int × Int)) × Int)))) (C := [(30102, 82011)]) (st' := (⟨54, [e31_32, e31_122 v45, sp 5 5, e31_79 l301024 v45 l301003 v63, e31_110 w, e31_125, sI 60 v45, e31_65 l30100, sI 99 v45, e31_82, e31_24 l301003 v45, sI 117 v63], [e31_8 l301003 v45 v63, e31_15 l301004 v45, e31_0 g, e31_11 l301024, e31_12 l301003 v45]⟩ : St)) (by kernel_rfl) (by kernel_rfl) rfl ?_
             refine awd_done (by kernel_rfl) ?_
             refine thenQ_n ?_
             refine srn 2 ⟨54, [e31_32, e31_122 v45, sp 5 5, sB 21 (!(mget (l301024.getD (((v45 + (1 : Int))).toNat) ([] : (List ((Int × (Int × Int)) × Int)))) (((l301003.getD ((v45).toNat) ([] : LN)).getD ((v63).toNat) z3).1, ((((l301003.getD ((v45).toNat) ([] : LN)).getD ((v63).toNat) z3).2.1 + (1 : Int)), ((l301003.getD ((v45).toNat) ([] : LN)).getD ((v63).toNat) z3).2.2))).isSome), e31_110 w, e31_125, sI 60 v45, e31_65 l30100, sI 99 v45, e31_82, e31_24 l301003 v45, sI 117 v63], [e31_8 l301003 v45 v63, e31_15 l301004 v45, e31_0 g, e31_11 l301024, e31_12 l301003 v45]⟩ (by kernel_rfl) rfl ?_
             refine withJoin (σ := (List LN) × (List (List ((Int × (Int × Int)) × Int)))) (fun s => (⟨54, [e31_110 w, e31_125, sI 60 v45, e31_65 l30100, sI 99 v45, e31_82, e31_24 l301003 v45, sI 117 v63], [(30100, [], .deep 110 113 (.sl t3) s.1 [(82000, ((v45).toNat), [.own 82001])]), e31_0 g, (30102, [], .deep 141 0 (.mp t3 tI) s.2 []), e31_12 l301003 v45]⟩ : St)) (fun s => VC31_k9 v63 X3 s.1 s.2) (fun s h => ?_) (fun rest5 => ?_)
             ·obtain ⟨l301005, l301025⟩ := s
              have h : VC31_k9 v63 X3 l301005 l301025 := h
              unfold VC31_k9 at h
              refine inlR_n (ob := True) (.tup []) (by kernel_rfl) trivial rfl ?_
              refine lpr (st' := (⟨97, [e31_75 w, e31_131, sI 6 v45, e31_70 l30100, sI 45 v45, e31_140, e31_58 l301003 v45, sI 63 v63], [e31_41 l301005 v45, e31_0 g, e31_16 l301025, e31_12 l301003 v45]⟩ : St)) (by kernel_rfl) ?_
              refine awl_nil ?_
              exact rest4 (l301005, l301025) h
             ·refine aw_cond (b := (!(mget (l301024.getD (((v45 + (1 : Int))).toNat) ([] : (List ((Int × (Int × Int)) × Int)))) (((l301003.getD ((v45).toNat) ([] : LN)).getD ((v63).toNat) z3).1, ((((l301003.getD ((v45).toNat) ([] : LN)).getD ((v63).toNat) z3).2.1 + (1 : Int)), ((l301003.getD ((v45).toNat) ([] : LN)).getD ((v63).toNat) z3).2.2))).isSome)) (by kernel_rfl) (fun hb => ?_) (fun hb => ?_)
              ·have h := h.1 hb
               refine aw_seq ?_
               refine awd_begin [30102, 82011] (by kernel_rfl) ?_
               refine awd_memo ((inIdx (v45 + (1 : Int)) l301004.length ∧ (((v45).toNat) ≠ (((v45 + (1 : Int))).toNat) ∧ (roomN ((l301004.getD (((v45 + (1 : Int))).toNat) ([] : LN)).length + [(((l301003.getD ((v45).toNat) ([] : LN)).getD ((v63).toNat) z3).1, ((((l301003.getD ((v45).toNat) ([] : LN)).getD ((v63).toNat) z3).2.1 + (1 : Int)), ((l301003.getD ((v45).toNat) ([] : LN)).getD ((v63).toNat) z3).2.2))].length) ∧ (inIdx (v45 + (1 : Int)) l301004.length ∧ VC31_k9 v63 X3 (l301004.set (((v45 + (1 : Int))).toNat) ((l301004.getD (((v45 + (1 : Int))).toNat) ([] : LN)) ++ [(((l301003.getD ((v45).toNat) ([] : LN)).getD ((v63).toNat) z3).1, ((((l301003.getD ((v45).toNat) ([] : LN)).getD ((v63).toNat) z3).2.1 + (1 : Int)), ((l301003.getD ((v45).toNat) ([] : LN)).getD ((v63).toNat) z3).2.2))])) (l301024.set (((v45 + (1 : Int))).toNat) (mset (l301024.getD (((v45 + (1 : Int))).toNat) ([] : (List ((Int × (Int × Int)) × Int)))) (((l301003.getD ((v45).toNat) ([] : LN)).getD ((v63).toNat) z3).1, ((((l301003.getD ((v45).toNat) ([] : LN)).getD ((v63).toNat) z3).2.1 + (1 : Int)), ((l301003.getD ((v45).toNat) ([] : LN)).getD ((v63).toNat) z3).2.2)) ((l301004.getD (((v45 + (1 : Int))).toNat) ([] : LN)).length : Int)))))))) e31_n0 (⟨54, [e31_32, e31_122 v45, sp 5 5, s1 28 (.own 82011), e31_34 l301003 v45 v63, e31_149 l301004 v45, e31_110 w, e31_125, sI 60 v45, e31_65 l30100, sI 99 v45, e31_82, e31_24 l301003 v45, sI 117 v63], [e31_8 l301003 v45 v63, e31_74 l301004 v45, e31_0 g, e31_47 l301024 v45, e31_12 l301003 v45, e31_59 l301024 v45, e31_123 l301004 v45]⟩ : St) (fun h => ?_) (fun m1 => ?_)
               ·refine awd_one (i := 16) (by kernel_rfl) ?_
                refine dsq (ob := True) (st' := (⟨54, [e31_32, e31_122 v45, sp 5 5, e31_110 w, e31_125, sI 60 v45, e31_65 l30100, sI 99 v45, e31_82, e31_24 l301003 v45, sI 117 v63], [e31_8 l301003 v45 v63, e31_74 l301004 v45, e31_0 g, e31_47 l301024 v45, e31_12 l301003 v45, e31_61 l301024 v45 l301003 v63 l301004, e31_123 l301004 v45]⟩ : St)) rfl (by kernel_rfl) trivial ?_
                refine dcl 30100 82020 true (ob := (l301004.getD (((v45 + (1 : Int))).toNat) ([] : LN)) = l301004.getD (((v45 + (1 : Int))).toNat) ([] : LN)) (C := [(30100, 82021)]) (st' := (⟨54, [e31_32, e31_122 v45, sp 5 5, e31_110 w, e31_125, sI 60 v45, e31_65 l30100, sI 99 v45, e31_82, e31_24 l301003 v45, sI 117 v63], [e31_8 l301003 v45 v63, e31_15 l301004 v45, e31_0 g, e31_47 l301024 v45, e31_12 l301003 v45, e31_61 l301024 v45 l301003 v63 l301004]⟩ : St)) (by kernel_rfl) (by kernel_rfl) rfl ?_
                refine dcl 30102 82010 false (ob := True) (C := [(30102, 82011)]) (st' := (⟨54, [e31_32, e31_122 v45, sp 5 5, e31_110 w, e31_125, sI 60 v45, e31_65 l30100, sI 99 v45, e31_82, e31_24 l301003 v45, sI 117 v63], [e31_8 l301003 v45 v63, e31_15 l301004 v45, e31_0 g, e31_4 l301024 v45 l301003 v63 l301004, e31_12 l301003 v45]⟩ : St)) (by kernel_rfl) (by kernel_rfl) trivial ?_
                refine awd_done (by kernel_rfl) ?_
                refine thenQ_n ?_
                refine awd_begin [52, 30100, 82011] (by kernel_rfl) ?_
                refine awd_memo ((roomN ((l301004.getD (((v45 + (1 : Int))).toNat) ([] : LN)).length + [(((l301003.getD ((v45).toNat) ([] : LN)).getD ((v63).toNat) z3).1, ((((l301003.getD ((v45).toNat) ([] : LN)).getD ((v63).toNat) z3).2.1 + (1 : Int)), ((l301003.getD ((v45).toNat) ([] : LN)).getD ((v63).toNat) z3).2.2))].length) ∧ (inIdx (v45 + (1 : Int)) l301004.length ∧ VC31_k9 v63 X3 (l301004.set (((v45 + (1 : Int))).toNat) ((l301004.getD (((v45 + (1 : Int))).toNat) ([] : LN)) ++ [(((l301003.getD ((v45).toNat) ([] : LN)).getD ((v63).toNat) z3).1, ((((l301003.getD ((v45).toNat) ([] : LN)).getD ((v63).toNat) z3).2.1 + (1 : Int)), ((l301003.getD ((v45).toNat) ([] : LN)).getD ((v63).toNat) z3).2.2))])) (l301024.set (((v45 + (1 : Int))).toNat) (mset (l301024.getD (((v45 + (1 : Int))).toNat) ([] : (List ((Int × (Int × Int)) × Int)))) (((l301003.getD ((v45).toNat) ([] : LN)).getD ((v63).toNat) z3).1, ((((l301003.getD ((v45).toNat) ([] : LN)).getD ((v63).toNat) z3).2.1 + (1 : Int)), ((l301003.getD ((v45).toNat) ([] : LN)).getD ((v63).toNat) z3).2.2)) ((l301004.getD (((v45 + (1 : Int))).toNat) ([] : LN)).length : Int)))))) e31_n1 (⟨54, [e31_81, e31_159 v45, s1 49 (.own 82011), e31_143, e31_110 w, e31_125, sI 60 v45, e31_65 l30100, sI 99 v45, e31_82, e31_24 l301003 v45, sI 117 v63], [e31_50 l301003 v45 v63, e31_66 l301004 v45, e31_0 g, e31_4 l301024 v45 l301003 v63 l301004, e31_12 l301003 v45, e31_107 l301004 v45]⟩ : St) (fun h => ?_) (fun m2 => ?_)
                ·refine awd_one (i := 14) (by kernel_rfl) ?_
                 obtain ⟨o1, h⟩ := h
                 refine dsq (ob := roomN ((l301004.getD (((v45 + (1 : Int))).toNat) ([] : LN)).length + [(((l301003.getD ((v45).toNat) ([] : LN)).getD ((v63).toNat) z3).1, ((((l301003.getD ((v45).toNat) ([] : LN)).getD ((v63).toNat) z3).2.1 + (1 : Int)), ((l301003.getD ((v45).toNat) ([] : LN)).getD ((v63).toNat) z3).2.2))].length)) (st' := (⟨54, [e31_81, e31_159 v45, e31_161, e31_110 w, e31_125, sI 60 v45, e31_65 l30100, sI 99 v45, e31_82, e31_24 l301003 v45, sI 117 v63], [e31_40 l301004 v45 l301003 v63, e31_113 l301004 v45, e31_0 g, e31_4 l301024 v45 l301003 v63 l301004, e31_12 l301003 v45]⟩ : St)) rfl (by kernel_rfl) o1 ?_
                 obtain ⟨o1, h⟩ := h
                 refine drq (by kernel_rfl) [15] (ob := (inIdx (v45 + (1 : Int)) l301004.length ∧ True)) (done' := e31_n2) (st' := (⟨54, [e31_161, s1 53 (.el 30100 (((v45 + (1 : Int))).toNat) 1), e31_110 w, e31_125, sI 60 v45, e31_65 l30100, sI 99 v45, e31_82, e31_24 l301003 v45, sI 117 v63], [e31_40 l301004 v45 l301003 v63, e31_113 l301004 v45, e31_0 g, e31_4 l301024 v45 l301003 v63 l301004, e31_12 l301003 v45]⟩ : St)) (by kernel_rfl) (⟨o1, trivial⟩) ?_
                 refine dai 53 82010 (ob := (((v45 + (1 : Int))).toNat) = (((v45 + (1 : Int))).toNat)) (C := []) (st' := (⟨54, [s1 53 (.ep 30100 82010 0), e31_161, e31_110 w, e31_125, sI 60 v45, e31_65 l30100, sI 99 v45, e31_82, e31_24 l301003 v45, sI 117 v63], [e31_40 l301004 v45 l301003 v63, e31_113 l301004 v45, e31_0 g, e31_4 l301024 v45 l301003 v63 l301004, e31_12 l301003 v45]⟩ : St)) (by kernel_rfl) (by kernel_rfl) rfl ?_
                 refine awd_one (i := 16) (by kernel_rfl) ?_
                 refine dsq (ob := True) (st' := (⟨54, [e31_110 w, e31_125, sI 60 v45, e31_65 l30100, sI 99 v45, e31_82, e31_24 l301003 v45, sI 117 v63], [e31_40 l301004 v45 l301003 v63, (30100, [], .deep 110 113 (.sl t3) l301004 [(82000, ((v45).toNat), [.own 82001]), (82010, (((v45 + (1 : Int))).toNat), [.own 52])]), e31_0 g, e31_4 l301024 v45 l301003 v63 l301004, e31_12 l301003 v45]⟩ : St)) rfl (by kernel_rfl) trivial ?_
                 refine dcl 30100 82010 false (ob := True) (C := [(30100, 52)]) (st' := (⟨54, [e31_110 w, e31_125, sI 60 v45, e31_65 l30100, sI 99 v45, e31_82, e31_24 l301003 v45, sI 117 v63], [(30100, [], .deep 110 113 (.sl t3) (l301004.set (((v45 + (1 : Int))).toNat) ((l301004.getD (((v45 + (1 : Int))).toNat) ([] : LN)) ++ [(((l301003.getD ((v45).toNat) ([] : LN)).getD ((v63).toNat) z3).1, ((((l301003.getD ((v45).toNat) ([] : LN)).getD ((v63).toNat) z3).2.1 + (1 : Int)), ((l301003.getD ((v45).toNat) ([] : LN)).getD ((v63).toNat) z3).2.2))])) [(82000, ((v45).toNat), [.own 82001])]), e31_0 g, e31_4 l301024 v45 l301003 v63 l301004, e31_12 l301003 v45]⟩ : St)) (by kernel_rfl) (by kernel_rfl) trivial ?_
                 refine awd_done (by kernel_rfl) ?_
                 exact rest5 ((l301004.set (((v45 + (1 : Int))).toNat) ((l301004.getD (((v45 + (1 : Int))).toNat) ([] : LN)) ++ [(((l301003.getD ((v45).toNat) ([] : LN)).getD ((v63).toNat) z3).1, ((((l301003.getD ((v45).toNat) ([] : LN)).getD ((v63).toNat) z3).2.1 + (1 : Int)), ((l301003.getD ((v45).toNat) ([] : LN)).getD ((v63).toNat) z3).2.2))])), (l301024.set (((v45 + (1 : Int))).toNat) (mset (l301024.getD (((v45 + (1 : Int))).toNat) ([] : (List ((Int × (Int × Int)) × Int)))) (((l301003.getD ((v45).toNat) ([] : LN)).getD ((v63).toNat) z3).1, ((((l301003.getD ((v45).toNat) ([] : LN)).getD ((v63).toNat) z3).2.1 + (1 : Int)), ((l301003.getD ((v45).toNat) ([] : LN)).getD ((v63).toNat) z3).2.2)) ((l301004.getD (((v45 + (1 : Int))).toNat) ([] : LN)).length : Int)))) h
                ·obtain ⟨o1, h⟩ := h
                 refine drq (by kernel_rfl) e31_n7 (ob := (Ts 10 (inIdx (v45 + (1 : Int)) l301004.length ∧ Ts 1 True))) (done' := e31_n8) (st' := (⟨54, [e31_81, e31_159 v45, s1 48 (.el 30100 (((v45 + (1 : Int))).toNat) 1), e31_71 l301003 v45 v63, e31_110 w, e31_125, sI 60 v45, e31_65 l30100, sI 99 v45, e31_82, e31_24 l301003 v45, sI 117 v63], [e31_15 l301004 v45, e31_0 g, e31_4 l301024 v45 l301003 v63 l301004, e31_12 l301003 v45]⟩ : St)) (by kernel_rfl) (tsI 10 ⟨o1, tsI 1 trivial⟩) ?_
                 obtain ⟨hne0, h⟩ := h
                 refine dop 48 82010 [82011] (ob := ((v45).toNat) ≠ (((v45 + (1 : Int))).toNat) ∧ True) (C := [(82011, 30100)]) (st' := (⟨54, [s1 48 (.ep 30100 82010 0), e31_81, e31_159 v45, e31_71 l301003 v45 v63, e31_110 w, e31_125, sI 60 v45, e31_65 l30100, sI 99 v45, e31_82, e31_24 l301003 v45, sI 117 v63], [e31_107 l301004 v45, e31_66 l301004 v45, e31_0 g, e31_4 l301024 v45 l301003 v63 l301004, e31_12 l301003 v45]⟩ : St)) (by kernel_rfl) (by kernel_rfl) ⟨hne0, trivial⟩ ?_
                 refine awd_two (i := 11) (j := 13) (by kernel_rfl) ?_ ?_
                 ·have h := h
                  refine dsq (ob := True) (st' := (⟨54, [e31_81, e31_159 v45, s1 49 (.own 82011), e31_71 l301003 v45 v63, e31_110 w, e31_125, sI 60 v45, e31_65 l30100, sI 99 v45, e31_82, e31_24 l301003 v45, sI 117 v63], [e31_66 l301004 v45, e31_0 g, e31_4 l301024 v45 l301003 v63 l301004, e31_12 l301003 v45, e31_107 l301004 v45]⟩ : St)) rfl (by kernel_rfl) trivial ?_
                  refine awd_one (i := 13) (by kernel_rfl) ?_
                  refine dsq (ob := True) (st' := (⟨54, [e31_81, e31_159 v45, s1 49 (.own 82011), e31_143, e31_110 w, e31_125, sI 60 v45, e31_65 l30100, sI 99 v45, e31_82, e31_24 l301003 v45, sI 117 v63], [e31_50 l301003 v45 v63, e31_66 l301004 v45, e31_0 g, e31_4 l301024 v45 l301003 v63 l301004, e31_12 l301003 v45, e31_107 l301004 v45]⟩ : St)) rfl (by kernel_rfl) trivial ?_
                  exact m2 h
                 ·have h := h
                  refine dsq (ob := True) (st' := (⟨54, [e31_81, e31_159 v45, s1 48 (.ep 30100 82010 0), e31_143, e31_110 w, e31_125, sI 60 v45, e31_65 l30100, sI 99 v45, e31_82, e31_24 l301003 v45, sI 117 v63], [e31_50 l301003 v45 v63, e31_66 l301004 v45, e31_0 g, e31_4 l301024 v45 l301003 v63 l301004, e31_12 l301003 v45, e31_107 l301004 v45]⟩ : St)) rfl (by kernel_rfl) trivial ?_
                  refine awd_one (i := 11) (by kernel_rfl) ?_
                  refine dsq (ob := True) (st' := (⟨54, [e31_81, e31_159 v45, s1 49 (.own 82011), e31_143, e31_110 w, e31_125, sI 60 v45, e31_65 l30100, sI 99 v45, e31_82, e31_24 l301003 v45, sI 117 v63], [e31_50 l301003 v45 v63, e31_66 l301004 v45, e31_0 g, e31_4 l301024 v45 l301003 v63 l301004, e31_12 l301003 v45, e31_107 l301004 v45]⟩ : St)) rfl (by kernel_rfl) trivial ?_
                  refine awd_perm e31_n1 (by kernel_rfl) (by kernel_rfl) ?_
                  exact m2 h
               ·obtain ⟨o1, o2, h⟩ := h
                refine drq (by kernel_rfl) e31_n5 (ob := (Ts 5 (inIdx (v45 + (1 : Int)) l301024.length ∧ Ts 6 (inIdx (v45 + (1 : Int)) l301004.length ∧ True)))) (done' := e31_n6) (st' := (⟨54, [e31_32, e31_122 v45, sp 5 5, s1 27 (.el 30102 (((v45 + (1 : Int))).toNat) 1), e31_34 l301003 v45 v63, s1 35 (.el 30100 (((v45 + (1 : Int))).toNat) 1), e31_110 w, e31_125, sI 60 v45, e31_65 l30100, sI 99 v45, e31_82, e31_24 l301003 v45, sI 117 v63], [e31_8 l301003 v45 v63, e31_15 l301004 v45, e31_0 g, e31_11 l301024, e31_12 l301003 v45]⟩ : St)) (by kernel_rfl) (tsI 5 (⟨o1, tsI 6 ⟨o2, trivial⟩⟩)) ?_
                refine dop 27 82010 [82011] (ob := True) (C := [(82011, 30102)]) (st' := (⟨54, [s1 27 (.ep 30102 82010 0), e31_32, e31_122 v45, sp 5 5, e31_34 l301003 v45 v63, s1 35 (.el 30100 (((v45 + (1 : Int))).toNat) 1), e31_110 w, e31_125, sI 60 v45, e31_65 l30100, sI 99 v45, e31_82, e31_24 l301003 v45, sI 117 v63], [e31_59 l301024 v45, e31_8 l301003 v45 v63, e31_15 l301004 v45, e31_0 g, e31_47 l301024 v45, e31_12 l301003 v45]⟩ : St)) (by kernel_rfl) (by kernel_rfl) trivial ?_
                obtain ⟨hne0, h⟩ := h
                refine dop 35 82020 [82021] (ob := ((v45).toNat) ≠ (((v45 + (1 : Int))).toNat) ∧ True) (C := [(82021, 30100)]) (st' := (⟨54, [s1 35 (.ep 30100 82020 0), s1 27 (.ep 30102 82010 0), e31_32, e31_122 v45, sp 5 5, e31_34 l301003 v45 v63, e31_110 w, e31_125, sI 60 v45, e31_65 l30100, sI 99 v45, e31_82, e31_24 l301003 v45, sI 117 v63], [e31_123 l301004 v45, e31_59 l301024 v45, e31_8 l301003 v45 v63, e31_74 l301004 v45, e31_0 g, e31_47 l301024 v45, e31_12 l301003 v45]⟩ : St)) (by kernel_rfl) (by kernel_rfl) ⟨hne0, trivial⟩ ?_
                refine drq (by kernel_rfl) [14, 15] (ob := (Ts 2 True)) (done' := e31_n3) (st' := (⟨54, [e31_32, e31_122 v45, sp 5 5, s1 27 (.ep 30102 82010 0), e31_34 l301003 v45 v63, e31_149 l301004 v45, e31_110 w, e31_125, sI 60 v45, e31_65 l30100, sI 99 v45, e31_82, e31_24 l301003 v45, sI 117 v63], [e31_8 l301003 v45 v63, e31_74 l301004 v45, e31_0 g, e31_47 l301024 v45, e31_12 l301003 v45, e31_59 l301024 v45, e31_123 l301004 v45]⟩ : St)) (by kernel_rfl) (tsI 2 trivial) ?_
                refine awd_one (i := 6) (by kernel_rfl) ?_
                refine dsq (ob := True) (st' := (⟨54, [e31_32, e31_122 v45, sp 5 5, s1 28 (.own 82011), e31_34 l301003 v45 v63, e31_149 l301004 v45, e31_110 w, e31_125, sI 60 v45, e31_65 l30100, sI 99 v45, e31_82, e31_24 l301003 v45, sI 117 v63], [e31_8 l301003 v45 v63, e31_74 l301004 v45, e31_0 g, e31_47 l301024 v45, e31_12 l301003 v45, e31_59 l301024 v45, e31_123 l301004 v45]⟩ : St)) rfl (by kernel_rfl) trivial ?_
                refine awd_perm e31_n0 (by kernel_rfl) (by kernel_rfl) ?_
                exact m1 h
              ·have h := h.2 hb
               refine cpr (st' := (⟨54, [e31_110 w, e31_125, sI 60 v45, e31_65 l30100, sI 99 v45, e31_82, e31_24 l301003 v45, sI 117 v63], [e31_15 l301004 v45, e31_0 g, e31_11 l301024, e31_12 l301003 v45]⟩ : St)) (by kernel_rfl) ?_
               refine aw_skip ?_
               exact rest5 (l301004, l301024) h
            ·have h := h.2 hb
             refine cpr (st' := (⟨97, [e31_75 w, e31_131, sI 6 v45, e31_70 l30100, sI 45 v45, e31_140, e31_58 l301003 v45, sI 63 v63], [e31_15 l301004 v45, e31_0 g, e31_11 l301024, e31_12 l301003 v45]⟩ : St)) (by kernel_rfl) ?_
             refine aw_skip ?_
             exact rest4 (l301004, l301024) h
          ·refine srn 3 ⟨27, [e31_32, sp 3 3, s1 28 (.pS w), sp 32 30101, sI 33 v45, sp 35 30400, e31_156 l30100, sI 72 v45, e31_172, e31_104 l301003 v45, sI 90 v63], [e31_73 l301003 v45 v63, e31_15 l301004 v45, e31_0 g, e31_11 l301024, e31_17 l301003 v45 v63, e31_12 l301003 v45]⟩ (by kernel_rfl) rfl ?_
           refine aw_seq ?_
           refine awd_begin [] (by kernel_rfl) ?_
           obtain ⟨o1, h⟩ := h
           refine drq (by kernel_rfl) e31_n10 (ob := (Ts 7 (inIdx (((l301003.getD ((v45).toNat) ([] : LN)).getD ((v63).toNat) z3).1) g.2.2.2.length ∧ Ts 3 True))) (done' := e31_n9) (st' := (⟨27, [sp 3 3, s1 6 (.pS ((g.2.2.2.getD (((l301003.getD ((v45).toNat) ([] : LN)).getD ((v63).toNat) z3).1).toNat ((0 : Int), ([] : LI))).2)), s1 28 (.pS w), sp 32 30101, sI 33 v45, sp 35 30400, e31_156 l30100, sI 72 v45, e31_172, e31_104 l301003 v45, sI 90 v63], [e31_73 l301003 v45 v63, e31_15 l301004 v45, e31_0 g, e31_11 l301024, e31_17 l301003 v45 v63, e31_12 l301003 v45]⟩ : St)) (by kernel_rfl) (tsI 7 ⟨o1, tsI 3 trivial⟩) ?_
           refine awd_done (by kernel_rfl) ?_
           refine thenQ_n ?_
           refine aw_seq ?_
           refine srn 5 ⟨27, [sp 3 3, s1 6 (.pS ((g.2.2.2.getD (((l301003.getD ((v45).toNat) ([] : LN)).getD ((v63).toNat) z3).1).toNat ((0 : Int), ([] : LI))).2)), sB 21 (decide (((l301003.getD ((v45).toNat) ([] : LN)).getD ((v63).toNat) z3).2.1 = (((g.2.2.2.getD (((l301003.getD ((v45).toNat) ([] : LN)).getD ((v63).toNat) z3).1).toNat ((0 : Int), ([] : LI))).2).length : Int))), s1 28 (.pS w), sp 32 30101, sI 33 v45, sp 35 30400, e31_156 l30100, sI 72 v45, e31_172, e31_104 l301003 v45, sI 90 v63], [e31_73 l301003 v45 v63, e31_15 l301004 v45, e31_0 g, e31_11 l301024, e31_17 l301003 v45 v63, e31_12 l301003 v45]⟩ (by kernel_rfl) rfl ?_
           refine aw_cond (b := (decide (((l301003.getD ((v45).toNat) ([] : LN)).getD ((v63).toNat) z3).2.1 = (((g.2.2.2.getD (((l301003.getD ((v45).toNat) ([] : LN)).getD ((v63).toNat) z3).1).toNat ((0 : Int), ([] : LI))).2).length : Int)))) (by kernel_rfl) (fun hb => ?_) (fun hb => ?_)
           ·have h := h.1 hb
            refine srn 2 ⟨27, [sI 4 (0 : Int), sB 5 false, s1 28 (.pS w), sp 32 30101, sI 33 v45, sp 35 30400, e31_156 l30100, sI 72 v45, e31_172, e31_104 l301003 v45, sI 90 v63], [e31_15 l301004 v45, e31_0 g, e31_11 l301024, e31_17 l301003 v45 v63, e31_12 l301003 v45]⟩ (by kernel_rfl) rfl ?_
            refine aw_ret ?_
            refine thenQ_r ?_
            exact rest6 ((0 : Int), false) h
           ·have h := h.2 hb
            refine aw_skip ?_
            refine thenQ_n ?_
            refine sr ?_
            obtain ⟨o1, h⟩ := h
            refine rq 7 (ob := (Ts 3 (inIdx (((l301003.getD ((v45).toNat) ([] : LN)).getD ((v63).toNat) z3).2.1) ((g.2.2.2.getD (((l301003.getD ((v45).toNat) ([] : LN)).getD ((v63).toNat) z3).1).toNat ((0 : Int), ([] : LI))).2).length ∧ Ts 3 True))) (st' := (⟨27, [sI 4 (((g.2.2.2.getD (((l301003.getD ((v45).toNat) ([] : LN)).getD ((v63).toNat) z3).1).toNat ((0 : Int), ([] : LI))).2).getD (((l301003.getD ((v45).toNat) ([] : LN)).getD ((v63).toNat) z3).2.1).toNat (0 : Int)), sB 5 true, s1 28 (.pS w), sp 32 30101, sI 33 v45, sp 35 30400, e31_156 l30100, sI 72 v45, e31_172, e31_104 l301003 v45, sI 90 v63], [e31_15 l301004 v45, e31_0 g, e31_11 l301024, e31_17 l301003 v45 v63, e31_12 l301003 v45]⟩ : St)) (by kernel_rfl) (tsI 3 ⟨o1, tsI 3 trivial⟩) ?_
            refine nn ?_
            refine aw_ret ?_
            exact rest6 ((((g.2.2.2.getD (((l301003.getD ((v45).toNat) ([] : LN)).getD ((v63).toNat) z3).1).toNat ((0 : Int), ([] : LI))).2).getD (((l301003.getD ((v45).toNat) ([] : LN)).getD ((v63).toNat) z3).2.1).toNat (0 : Int)), true) h
         ·have h := h.2 hb
          refine cpr (st' := (⟨97, [e31_75 w, e31_131, e31_70 l30100, sI 45 v45], [e31_15 l301004 v45, e31_0 g, e31_11 l301024, e31_12 l301003 v45]⟩ : St)) (by kernel_rfl) ?_
          refine aw_exit ?_
          refine thenQ_x ?_
          refine thenQ_x ?_
          refine blockQ_hit ?_
          exact rest3 (l301004, l301024) h
      ·refine aw_block ?_
       refine aw_loop (σ := Int × (List LN) × (List (List ((Int × (Int × Int)) × Int)))) (fun s => (⟨78, [e31_32, sI 1 v45, sI 4 s.1, e31_89 w, e31_100, sI 84 v45, e31_44 l30100, sI 123 v45], [(30100, [], .deep 110 113 (.sl t3) s.2.1 []), e31_0 g, (30102, [], .deep 141 0 (.mp t3 tI) s.2.2 [])]⟩ : St)) (fun s X => VC31_l4 g w K v45 X2 s.1 s.2.1 s.2.2 X) (s0 := ((-1 : Int), l301002, l301022)) (fun s X4 h => ?_) h
       obtain ⟨many, l301003, l301023⟩ := s
       have h : VC31_l4 g w K v45 X2 many l301003 l301023 X4 := h
       unfold VC31_l4 at h
       refine aw_seq ?_
       refine sr ?_
       obtain ⟨o1, h⟩ := h
       refine rq 7 (ob := (Ts 6 (inIdx v45 l301003.length ∧ True))) (st' := (⟨78, [e31_32, sI 1 v45, sI 9 many, s1 15 (.el 30100 ((v45).toNat) 1), e31_89 w, e31_100, sI 84 v45, e31_44 l30100, sI 123 v45], [e31_93 l301003, e31_0 g, e31_51 l301023]⟩ : St)) (by kernel_rfl) (tsI 6 ⟨o1, trivial⟩) ?_
       refine lop 15 82000 [82001] (ob := True) (C := [(82001, 30100)]) (st' := (⟨78, [s1 15 (.ep 30100 82000 0), e31_32, sI 1 v45, sI 9 many, e31_89 w, e31_100, sI 84 v45, e31_44 l30100, sI 123 v45], [e31_12 l301003 v45, e31_90 l301003 v45, e31_0 g, e31_51 l301023]⟩ : St)) (by kernel_rfl) trivial ?_
       refine rqT 3 ⟨78, [e31_32, sI 1 v45, sB 18 (!decide (many = ((l301003.getD ((v45).toNat) ([] : LN)).length : Int))), e31_89 w, e31_100, sI 84 v45, e31_44 l30100, sI 123 v45], [e31_90 l301003 v45, e31_0 g, e31_51 l301023, e31_12 l301003 v45]⟩ (by kernel_rfl) ?_
       refine lcl 30100 82000 true (ob := (l301003.getD ((v45).toNat) ([] : LN)) = l301003.getD ((v45).toNat) ([] : LN)) (C := [(30100, 82001)]) (st' := (⟨78, [e31_32, sI 1 v45, sB 18 (!decide (many = ((l301003.getD ((v45).toNat) ([] : LN)).length : Int))), e31_89 w, e31_100, sI 84 v45, e31_44 l30100, sI 123 v45], [e31_93 l301003, e31_0 g, e31_51 l301023]⟩ : St)) (by kernel_rfl) rfl ?_
       refine nn ?_
       refine aw_cond (b := (!decide (many = ((l301003.getD ((v45).toNat) ([] : LN)).length : Int)))) (by kernel_rfl) (fun hb => ?_) (fun hb => ?_)
       ·have h := h.1 hb
        refine aw_skip ?_
        refine thenQ_n ?_
        refine aw_block ?_
        refine sr ?_
        obtain ⟨o1, h⟩ := h
        refine rq 6 (ob := (Ts 5 (inIdx v45 l301003.length ∧ True))) (st' := (⟨78, [e31_32, sI 1 v45, s1 24 (.el 30100 ((v45).toNat) 1), e31_89 w, e31_100, sI 84 v45, e31_44 l30100, sI 123 v45], [e31_93 l301003, e31_0 g, e31_51 l301023]⟩ : St)) (by kernel_rfl) (tsI 5 ⟨o1, trivial⟩) ?_
        refine lop 24 82000 [82001] (ob := True) (C := [(82001, 30100)]) (st' := (⟨78, [s1 24 (.ep 30100 82000 0), e31_32, sI 1 v45, e31_89 w, e31_100, sI 84 v45, e31_44 l30100, sI 123 v45], [e31_12 l301003 v45, e31_90 l301003 v45, e31_0 g, e31_51 l301023]⟩ : St)) (by kernel_rfl) trivial ?_
        refine rqT 3 ⟨78, [e31_32, sI 1 v45, e31_31 l301003 v45, e31_89 w, e31_100, sI 84 v45, e31_44 l30100, sI 123 v45], [e31_90 l301003 v45, e31_0 g, e31_51 l301023, e31_12 l301003 v45]⟩ (by kernel_rfl) ?_
        refine lcl 30100 82000 true (ob := (l301003.getD ((v45).toNat) ([] : LN)) = l301003.getD ((v45).toNat) ([] : LN)) (C := [(30100, 82001)]) (st' := (⟨78, [e31_32, sI 1 v45, e31_31 l301003 v45, e31_89 w, e31_100, sI 84 v45, e31_44 l30100, sI 123 v45], [e31_93 l301003, e31_0 g, e31_51 l301023]⟩ : St)) (by kernel_rfl) rfl ?_
        refine nsr ?_
        refine rqT 1 ⟨78, [e31_32, sI 1 v45, e31_31 l301003 v45, sI 5 (0 : Int), e31_89 w, e31_100, sI 84 v45, e31_44 l30100, sI 123 v45], [e31_93 l301003, e31_0 g, e31_51 l301023]⟩ (by kernel_rfl) ?_
        refine nn ?_
        refine withJoin (σ := (List LN) × (List (List ((Int × (Int × Int)) × Int)))) (fun s => (⟨78, [e31_32, sI 1 v45, e31_31 l301003 v45, e31_89 w, e31_100, sI 84 v45, e31_44 l30100, sI 123 v45], [(30100, [], .deep 110 113 (.sl t3) s.1 []), e31_0 g, (30102, [], .deep 141 0 (.mp t3 tI) s.2 [])]⟩ : St)) (fun s => VC31_k10 v45 l301003 X4 s.1 s.2) (fun s h => ?_) (fun rest8 => ?_)
        ·obtain ⟨l301004, l301024⟩ := s
         have h : VC31_k10 v45 l301003 X4 l301004 l301024 := h
         unfold VC31_k10 at h
         refine blockQ_n ?_
         exact thenQ_n ⟨(((l301003.getD ((v45).toNat) ([] : LN)).length : Int), l301004, l301024), rfl, h⟩
        ·refine aw_block ?_
         refine aw_loop (σ := Int × (List LN) × (List (List ((Int × (Int × Int)) × Int)))) (fun s => (⟨78, [e31_32, sI 1 v45, e31_31 l301003 v45, sI 5 s.1, e31_89 w, e31_100, sI 84 v45, e31_44 l30100, sI 123 v45], [(30100, [], .deep 110 113 (.sl t3) s.2.1 []), e31_0 g, (30102, [], .deep 141 0 (.mp t3 tI) s.2.2 [])]⟩ : St)) (fun s X => VC31_l5 g v45 l301003 X4 s.1 s.2.1 s.2.2 X) (s0 := ((0 : Int), l301003, l301023)) (fun s X5 h => ?_) h
         obtain ⟨i, l301004, l301024⟩ := s
         have h : VC31_l5 g v45 l301003 X4 i l301004 l301024 X5 := h
         unfold VC31_l5 at h
         refine aw_seq ?_
         refine sr ?_
         obtain ⟨o1, h⟩ := h
         refine rq 7 (ob := (Ts 6 (inIdx v45 l301004.length ∧ True))) (st' := (⟨78, [e31_32, sI 1 v45, e31_31 l301003 v45, sI 5 i, sI 27 i, s1 33 (.el 30100 ((v45).toNat) 1), e31_89 w, e31_100, sI 84 v45, e31_44 l30100, sI 123 v45], [e31_36 l301004, e31_0 g, e31_11 l301024]⟩ : St)) (by kernel_rfl) (tsI 6 ⟨o1, trivial⟩) ?_
         refine lop 33 82000 [82001] (ob := True) (C := [(82001, 30100)]) (st' := (⟨78, [s1 33 (.ep 30100 82000 0), e31_32, sI 1 v45, e31_31 l301003 v45, sI 5 i, sI 27 i, e31_89 w, e31_100, sI 84 v45, e31_44 l30100, sI 123 v45], [e31_150 l301004 v45, e31_15 l301004 v45, e31_0 g, e31_11 l301024]⟩ : St)) (by kernel_rfl) trivial ?_
         refine rqT 3 ⟨78, [e31_32, sI 1 v45, e31_31 l301003 v45, sI 5 i, sB 36 (decide (i < ((l301004.getD ((v45).toNat) ([] : LN)).length : Int))), e31_89 w, e31_100, sI 84 v45, e31_44 l30100, sI 123 v45], [e31_15 l301004 v45, e31_0 g, e31_11 l301024, e31_150 l301004 v45]⟩ (by kernel_rfl) ?_
         refine lcl 30100 82000 true (ob := (l301004.getD ((v45).toNat) ([] : LN)) = l301004.getD ((v45).toNat) ([] : LN)) (C := [(30100, 82001)]) (st' := (⟨78, [e31_32, sI 1 v45, e31_31 l301003 v45, sI 5 i, sB 36 (decide (i < ((l301004.getD ((v45).toNat) ([] : LN)).length : Int))), e31_89 w, e31_100, sI 84 v45, e31_44 l30100, sI 123 v45], [e31_36 l301004, e31_0 g, e31_11 l301024]⟩ : St)) (by kernel_rfl) rfl ?_
         refine nn ?_
         refine aw_cond (b := (decide (i < ((l301004.getD ((v45).toNat) ([] : LN)).length : Int)))) (by kernel_rfl) (fun hb => ?_) (fun hb => ?_)
         ·have h := h.1 hb
          refine aw_skip ?_
          refine thenQ_n ?_
          refine aw_seq ?_
          refine aw_block ?_
          refine sr ?_
          obtain ⟨o1, h⟩ := h
          refine rq 6 (ob := (Ts 5 (inIdx v45 l301004.length ∧ True))) (st' := (⟨78, [e31_32, sI 1 v45, e31_31 l301003 v45, sI 5 i, s1 44 (.el 30100 ((v45).toNat) 1), e31_89 w, e31_100, sI 84 v45, e31_44 l30100, sI 123 v45], [e31_36 l301004, e31_0 g, e31_11 l301024]⟩ : St)) (by kernel_rfl) (tsI 5 ⟨o1, trivial⟩) ?_
          refine lop 44 82000 [82001] (ob := True) (C := [(82001, 30100)]) (st' := (⟨78, [s1 44 (.ep 30100 82000 0), e31_32, sI 1 v45, e31_31 l301003 v45, sI 5 i, e31_89 w, e31_100, sI 84 v45, e31_44 l30100, sI 123 v45], [e31_150 l301004 v45, e31_15 l301004 v45, e31_0 g, e31_11 l301024]⟩ : St)) (by kernel_rfl) trivial ?_
          obtain ⟨o1, h⟩ := h
          refine rq 6 (ob := (Ts 2 (inIdx i (l301004.getD ((v45).toNat) ([] : LN)).length ∧ Ts 3 True))) (st' := (⟨78, [e31_32, sI 1 v45, e31_31 l301003 v45, sI 5 i, sp 6 6, e31_89 w, e31_100, sI 84 v45, e31_44 l30100, sI 123 v45], [e31_77 l301004 v45 i, e31_15 l301004 v45, e31_0 g, e31_11 l301024, e31_150 l301004 v45]⟩ : St)) (by kernel_rfl) (tsI 2 ⟨o1, tsI 3 trivial⟩) ?_
          refine lcl 30100 82000 true (ob := (l301004.getD ((v45).toNat) ([] : LN)) = l301004.getD ((v45).toNat) ([] : LN)) (C := [(30100, 82001)]) (st' := (⟨78, [e31_32, sI 1 v45, e31_31 l301003 v45, sI 5 i, sp 6 6, e31_89 w, e31_100, sI 84 v45, e31_44 l30100, sI 123 v45], [e31_77 l301004 v45 i, e31_36 l301004, e31_0 g, e31_11 l301024]⟩ : St)) (by kernel_rfl) rfl ?_
          refine nsr ?_
          refine rqT 2 ⟨78, [e31_32, sI 1 v45, e31_31 l301003 v45, sI 5 i, sp 6 6, sp 50 30101, e31_98 l301004 v45 i, e31_89 w, e31_100, sI 84 v45, e31_44 l30100, sI 123 v45], [e31_77 l301004 v45 i, e31_36 l301004, e31_0 g, e31_11 l301024]⟩ (by kernel_rfl) ?_
          refine awl_conv [.ren 6 30700] (st' := (⟨78, [e31_32, sI 1 v45, e31_31 l301003 v45, sI 5 i, sp 6 30700, sp 50 30101, e31_98 l301004 v45 i, e31_89 w, e31_100, sI 84 v45, e31_44 l30100, sI 123 v45], [e31_20 l301004 v45 i, e31_36 l301004, e31_0 g, e31_11 l301024]⟩ : St)) (by kernel_rfl) ?_
          refine awl_inlr [.t 4, .t 5] [30700, 30100, 30101, 30102] [.c (.ptr 30101 0), .agg [.pI (((l301004.getD ((v45).toNat) ([] : LN)).getD ((i).toNat) z3).1), .pI (((l301004.getD ((v45).toNat) ([] : LN)).getD ((i).toNat) z3).2.1), .pI (((l301004.getD ((v45).toNat) ([] : LN)).getD ((i).toNat) z3).2.2)]] [] rfl rfl (by kernel_rfl) rfl (by kernel_rfl) Try.call91 (by kernel_rfl) (by kernel_rfl) Try.func91 rfl rfl (by kernel_rfl) ?_
          refine aw_conv [] (st' := (⟨27, [e31_32, sA 1 [.pI (((l301004.getD ((v45).toNat) ([] : LN)).getD ((i).toNat) z3).1), .pI (((l301004.getD ((v45).toNat) ([] : LN)).getD ((i).toNat) z3).2.1), .pI (((l301004.getD ((v45).toNat) ([] : LN)).getD ((i).toNat) z3).2.2)], e31_165, sI 28 v45, e31_105 l301003 v45, sI 32 i, sp 33 30700, sp 77 30101, sA 78 [.pI (((l301004.getD ((v45).toNat) ([] : LN)).getD ((i).toNat) z3).1), .pI (((l301004.getD ((v45).toNat) ([] : LN)).getD ((i).toNat) z3).2.1), .pI (((l301004.getD ((v45).toNat) ([] : LN)).getD ((i).toNat) z3).2.2)], s1 106 (.pS w), sp 110 30101, sI 111 v45, e31_153 l30100, sI 150 v45], [e31_20 l301004 v45 i, e31_36 l301004, e31_0 g, e31_11 l301024]⟩ : St)) (by kernel_rfl) ?_
          refine withJoinR (σ := Int × Bool) (fun s => (⟨27, [sI 4 s.1, sB 5 s.2, e31_165, sI 28 v45, e31_105 l301003 v45, sI 32 i, sp 33 30700, s1 106 (.pS w), sp 110 30101, sI 111 v45, e31_153 l30100, sI 150 v45], [e31_36 l301004, e31_0 g, e31_11 l301024, e31_20 l301004 v45 i]⟩ : St)) (fun s => VC31_k11 g v45 i l301004 l301024 X5 s.1 s.2) (fun s h => ?_) (fun rest18 => ?_)
          ·obtain ⟨v4, v5⟩ := s
           have h : VC31_k11 g v45 i l301004 l301024 X5 v4 v5 := h
           unfold VC31_k11 at h
           refine inlR_n (ob := (True ∧ True ∧ True)) (.tup [.c (.pI v4), .c (.pB v5)]) (by kernel_rfl) ⟨trivial, trivial, trivial⟩ rfl ?_
           refine lpr (st' := (⟨78, [e31_32, sI 1 v45, e31_31 l301003 v45, sI 5 i, sp 6 30700, (52, [], .tup [.c (.pI v4), .c (.pB v5)]), e31_89 w, e31_100, sI 84 v45, e31_44 l30100, sI 123 v45], [e31_36 l301004, e31_0 g, e31_11 l301024, e31_20 l301004 v45 i]⟩ : St)) (by kernel_rfl) ?_
           refine rqT 5 ⟨78, [e31_32, sI 1 v45, e31_31 l301003 v45, sI 5 i, sp 6 30700, sI 7 v4, sB 8 v5, e31_89 w, e31_100, sI 84 v45, e31_44 l30100, sI 123 v45], [e31_36 l301004, e31_0 g, e31_11 l301024, e31_20 l301004 v45 i]⟩ (by kernel_rfl) ?_
           refine nsr ?_
           refine rqT 2 ⟨78, [e31_32, sI 1 v45, e31_31 l301003 v45, sI 5 i, sp 6 30700, sI 7 v4, sB 56 (!v5), e31_89 w, e31_100, sI 84 v45, e31_44 l30100, sI 123 v45], [e31_36 l301004, e31_0 g, e31_11 l301024, e31_20 l301004 v45 i]⟩ (by kernel_rfl) ?_
           refine nn ?_
           refine withJoin (σ := (List LN) × (List (List ((Int × (Int × Int)) × Int)))) (fun s => (⟨78, [e31_32, sI 1 v45, e31_31 l301003 v45, sI 5 i, e31_89 w, e31_100, sI 84 v45, e31_44 l30100, sI 123 v45], [(30100, [], .deep 110 113 (.sl t3) s.1 []), e31_0 g, (30102, [], .deep 141 0 (.mp t3 tI) s.2 [])]⟩ : St)) (fun s => VC31_k12 i X5 s.1 s.2) (fun s h => ?_) (fun rest9 => ?_)
           ·obtain ⟨l301005, l301025⟩ := s
            have h : VC31_k12 i X5 l301005 l301025 := h
            unfold VC31_k12 at h
            refine blockQ_n ?_
            refine thenQ_n ?_
            refine aw_region ?_
            obtain ⟨o1, h⟩ := h
            refine rq 3 (ob := (Ts 1 (InR (i + (1 : Int)) ∧ Ts 1 True))) (st' := (⟨78, [e31_32, sI 1 v45, e31_31 l301003 v45, sI 5 (i + (1 : Int)), e31_89 w, e31_100, sI 84 v45, e31_44 l30100, sI 123 v45], [e31_19 l301005, e31_0 g, e31_16 l301025]⟩ : St)) (by kernel_rfl) (tsI 1 ⟨o1, tsI 1 trivial⟩) ?_
            refine awl_nil ?_
            exact thenQ_n ⟨((i + (1 : Int)), l301005, l301025), rfl, h⟩
           ·refine aw_cond (b := (!v5)) (by kernel_rfl) (fun hb => ?_) (fun hb => ?_)
            ·have h := h.1 hb
             refine aw_region ?_
             refine rqT 3 ⟨78, [e31_32, sI 1 v45, e31_31 l301003 v45, sI 5 i, sp 57 30101, sI 58 v45, sA 59 [.pI (((l301004.getD ((v45).toNat) ([] : LN)).getD ((i).toNat) z3).1), .pI (((l301004.getD ((v45).toNat) ([] : LN)).getD ((i).toNat) z3).2.1), .pI (((l301004.getD ((v45).toNat) ([] : LN)).getD ((i).toNat) z3).2.2)], e31_89 w, e31_100, sI 84 v45, e31_44 l30100, sI 123 v45], [e31_36 l301004, e31_0 g, e31_11 l301024]⟩ (by kernel_rfl) ?_
             refine awl_inlr [] [30100, 30101, 30102] [.c (.ptr 30101 0), .c (.pI v45), .agg [.pI (((l301004.getD ((v45).toNat) ([] : LN)).getD ((i).toNat) z3).1), .pI (((l301004.getD ((v45).toNat) ([] : LN)).getD ((i).toNat) z3).2.1), .pI (((l301004.getD ((v45).toNat) ([] : LN)).getD ((i).toNat) z3).2.2)]] [] rfl rfl (by kernel_rfl) rfl (by kernel_rfl) Try.call110 (by kernel_rfl) (by kernel_rfl) Try.func110 rfl rfl (by kernel_rfl) ?_
             refine aw_conv [] (st' := (⟨74, [e31_32, sI 1 v45, sA 2 [.pI (((l301004.getD ((v45).toNat) ([] : LN)).getD ((i).toNat) z3).1), .pI (((l301004.getD ((v45).toNat) ([] : LN)).getD ((i).toNat) z3).2.1), .pI (((l301004.getD ((v45).toNat) ([] : LN)).getD ((i).toNat) z3).2.2)], e31_134, sI 75 v45, e31_29 l301003 v45, sI 79 i, sp 131 30101, sI 132 v45, sA 133 [.pI (((l301004.getD ((v45).toNat) ([] : LN)).getD ((i).toNat) z3).1), .pI (((l301004.getD ((v45).toNat) ([] : LN)).getD ((i).toNat) z3).2.1), .pI (((l301004.getD ((v45).toNat) ([] : LN)).getD ((i).toNat) z3).2.2)], e31_108 w, e31_124, sI 158 v45, e31_67 l30100, sI 197 v45], [e31_36 l301004, e31_0 g, e31_11 l301024]⟩ : St)) (by kernel_rfl) ?_
             refine srn 1 ⟨74, [e31_32, sI 1 v45, sp 5 5, e31_134, sI 75 v45, e31_29 l301003 v45, sI 79 i, e31_108 w, e31_124, sI 158 v45, e31_67 l30100, sI 197 v45], [e31_9 l301004 v45 i, e31_36 l301004, e31_0 g, e31_11 l301024]⟩ (by kernel_rfl) rfl ?_
             refine aw_seq ?_
             refine awd_begin [] (by kernel_rfl) ?_
             obtain ⟨o1, o2, h⟩ := h
             refine drq (by kernel_rfl) [0, 1, 2, 3, 4, 5, 6, 7, 8, 9, 10, 11, 12, 13, 14, 15, 16] (ob := (Ts 12 (inIdx (((l301004.getD ((v45).toNat) ([] : LN)).getD ((i).toNat) z3).1) g.2.2.2.length ∧ Ts 2 (InR (g.1 + (g.2.2.2.getD (((l301004.getD ((v45).toNat) ([] : LN)).getD ((i).toNat) z3).1).toNat ((0 : Int), ([] : LI))).1) ∧ Ts 1 True)))) (done' := [16, 15, 14, 13, 12, 11, 10, 9, 8, 7, 6, 5, 4, 3, 2, 1, 0]) (st' := (⟨74, [e31_32, sI 1 v45, sp 5 5, e31_14 g l301004 v45 i, e31_134, sI 75 v45, e31_29 l301003 v45, sI 79 i, e31_108 w, e31_124, sI 158 v45, e31_67 l30100, sI 197 v45], [e31_9 l301004 v45 i, e31_36 l301004, e31_0 g, e31_11 l301024]⟩ : St)) (by kernel_rfl) (tsI 12 (⟨o1, tsI 2 ⟨o2, tsI 1 trivial⟩⟩)) ?_
             refine awd_done (by kernel_rfl) ?_
             refine thenQ_n ?_
             refine srn 1 ⟨74, [e31_32, sI 1 v45, sp 5 5, e31_14 g l301004 v45 i, sI 7 (0 : Int), e31_134, sI 75 v45, e31_29 l301003 v45, sI 79 i, e31_108 w, e31_124, sI 158 v45, e31_67 l30100, sI 197 v45], [e31_9 l301004 v45 i, e31_36 l301004, e31_0 g, e31_11 l301024]⟩ (by kernel_rfl) rfl ?_
             refine withJoin (σ := (List LN) × (List (List ((Int × (Int × Int)) × Int)))) (fun s => (⟨74, [e31_134, sI 75 v45, e31_29 l301003 v45, sI 79 i, e31_108 w, e31_124, sI 158 v45, e31_67 l30100, sI 197 v45], [(30100, [], .deep 110 113 (.sl t3) s.1 []), e31_0 g, (30102, [], .deep 141 0 (.mp t3 tI) s.2 [])]⟩ : St)) (fun s => VC31_k13 i X5 s.1 s.2) (fun s h => ?_) (fun rest10 => ?_)
             ·obtain ⟨l301005, l301025⟩ := s
              have h : VC31_k13 i X5 l301005 l301025 := h
              unfold VC31_k13 at h
              refine inlR_n (ob := True) (.tup []) (by kernel_rfl) trivial rfl ?_
              refine lpr (st' := (⟨78, [e31_32, sI 1 v45, e31_31 l301003 v45, sI 5 i, e31_89 w, e31_100, sI 84 v45, e31_44 l30100, sI 123 v45], [e31_19 l301005, e31_0 g, e31_16 l301025]⟩ : St)) (by kernel_rfl) ?_
              refine awl_nil ?_
              exact rest9 (l301005, l301025) h
             ·refine aw_block ?_
              refine aw_loop (σ := Int × (List LN) × (List (List ((Int × (Int × Int)) × Int)))) (fun s => (⟨74, [e31_32, sI 1 v45, sp 5 5, e31_14 g l301004 v45 i, sI 7 s.1, e31_134, sI 75 v45, e31_29 l301003 v45, sI 79 i, e31_108 w, e31_124, sI 158 v45, e31_67 l30100, sI 197 v45], [e31_9 l301004 v45 i, (30100, [], .deep 110 113 (.sl t3) s.2.1 []), e31_0 g, (30102, [], .deep 141 0 (.mp t3 tI) s.2.2 [])]⟩ : St)) (fun s X => VC31_l6 g v45 i l301004 X5 s.1 s.2.1 s.2.2 X) (s0 := ((0 : Int), l301004, l301024)) (fun s X6 h => ?_) h
              obtain ⟨i2, l301005, l301025⟩ := s
              have h : VC31_l6 g v45 i l301004 X5 i2 l301005 l301025 X6 := h
              unfold VC31_l6 at h
              refine aw_seq ?_
              refine aw_seq ?_
              refine awd_begin [] (by kernel_rfl) ?_
              obtain ⟨o1, h⟩ := h
              refine drq (by kernel_rfl) [0, 1, 2, 3, 4, 5, 6, 7] (ob := (Ts 7 (inIdx (((l301004.getD ((v45).toNat) ([] : LN)).getD ((i).toNat) z3).2.2) l301005.length ∧ True))) (done' := [7, 6, 5, 4, 3, 2, 1, 0]) (st' := (⟨74, [e31_32, sI 1 v45, sp 5 5, e31_14 g l301004 v45 i, sI 7 i2, sI 27 i2, s1 34 (.el 30100 ((((l301004.getD ((v45).toNat) ([] : LN)).getD ((i).toNat) z3).2.2).toNat) 1), e31_134, sI 75 v45, e31_29 l301003 v45, sI 79 i, e31_108 w, e31_124, sI 158 v45, e31_67 l30100, sI 197 v45], [e31_9 l301004 v45 i, e31_19 l301005, e31_0 g, e31_16 l301025]⟩ : St)) (by kernel_rfl) (tsI 7 ⟨o1, trivial⟩) ?_
              refine dop 34 82000 [82001] (ob := True) (C := [(82001, 30100)]) (st' := (⟨74, [s1 34 (.ep 30100 82000 0), e31_32, sI 1 v45, sp 5 5, e31_14 g l301004 v45 i, sI 7 i2, sI 27 i2, e31_134, sI 75 v45, e31_29 l301003 v45, sI 79 i, e31_108 w, e31_124, sI 158 v45, e31_67 l30100, sI 197 v45], [e31_72 l301005 l301004 v45 i, e31_9 l301004 v45 i, e31_54 l301005 l301004 v45 i, e31_0 g, e31_16 l301025]⟩ : St)) (by kernel_rfl) (by kernel_rfl) trivial ?_
              refine drq (by kernel_rfl) [8, 9, 10] (ob := (Ts 3 True)) (done' := e31_n9) (st' := (⟨74, [e31_32, sI 1 v45, sp 5 5, e31_14 g l301004 v45 i, sI 7 i2, sB 37 (decide (i2 < ((l301005.getD ((((l301004.getD ((v45).toNat) ([] : LN)).getD ((i).toNat) z3).2.2).toNat) ([] : LN)).length : Int))), e31_134, sI 75 v45, e31_29 l301003 v45, sI 79 i, e31_108 w, e31_124, sI 158 v45, e31_67 l30100, sI 197 v45], [e31_9 l301004 v45 i, e31_54 l301005 l301004 v45 i, e31_0 g, e31_16 l301025, e31_72 l301005 l301004 v45 i]⟩ : St)) (by kernel_rfl) (tsI 3 trivial) ?_
              refine dcl 30100 82000 true (ob := (l301005.getD ((((l301004.getD ((v45).toNat) ([] : LN)).getD ((i).toNat) z3).2.2).toNat) ([] : LN)) = l301005.getD ((((l301004.getD ((v45).toNat) ([] : LN)).getD ((i).toNat) z3).2.2).toNat) ([] : LN)) (C := [(30100, 82001)]) (st' := (⟨74, [e31_32, sI 1 v45, sp 5 5, e31_14 g l301004 v45 i, sI 7 i2, sB 37 (decide (i2 < ((l301005.getD ((((l301004.getD ((v45).toNat) ([] : LN)).getD ((i).toNat) z3).2.2).toNat) ([] : LN)).length : Int))), e31_134, sI 75 v45, e31_29 l301003 v45, sI 79 i, e31_108 w, e31_124, sI 158 v45, e31_67 l30100, sI 197 v45], [e31_9 l301004 v45 i, e31_19 l301005, e31_0 g, e31_16 l301025]⟩ : St)) (by kernel_rfl) (by kernel_rfl) rfl ?_
              refine awd_done (by kernel_rfl) ?_
              refine thenQ_n ?_
              refine aw_cond (b := (decide (i2 < ((l301005.getD ((((l301004.getD ((v45).toNat) ([] : LN)).getD ((i).toNat) z3).2.2).toNat) ([] : LN)).length : Int)))) (by kernel_rfl) (fun hb => ?_) (fun hb => ?_)
              ·have h := h.1 hb
               refine aw_skip ?_
               refine thenQ_n ?_
               refine aw_seq ?_
               refine aw_block ?_
               refine aw_seq ?_
               refine awd_begin [8] (by kernel_rfl) ?_
               obtain ⟨o1, h⟩ := h
               refine drq (by kernel_rfl) [0, 1, 2, 3, 4, 5, 6, 8] (ob := (Ts 6 (inIdx (((l301004.getD ((v45).toNat) ([] : LN)).getD ((i).toNat) z3).2.2) l301005.length ∧ Ts 1 True))) (done' := [8, 6, 5, 4, 3, 2, 1, 0]) (st' := (⟨74, [e31_32, sI 1 v45, sp 5 5, e31_14 g l301004 v45 i, sI 7 i2, s1 46 (.el 30100 ((((l301004.getD ((v45).toNat) ([] : LN)).getD ((i).toNat) z3).2.2).toNat) 1), sI 48 i2, e31_134, sI 75 v45, e31_29 l301003 v45, sI 79 i, e31_108 w, e31_124, sI 158 v45, e31_67 l30100, sI 197 v45], [e31_9 l301004 v45 i, e31_19 l301005, e31_0 g, e31_16 l301025]⟩ : St)) (by kernel_rfl) (tsI 6 ⟨o1, tsI 1 trivial⟩) ?_
               refine dop 46 82000 [82001] (ob := True) (C := [(82001, 30100)]) (st' := (⟨74, [s1 46 (.ep 30100 82000 0), e31_32, sI 1 v45, sp 5 5, e31_14 g l301004 v45 i, sI 7 i2, sI 48 i2, e31_134, sI 75 v45, e31_29 l301003 v45, sI 79 i, e31_108 w, e31_124, sI 158 v45, e31_67 l30100, sI 197 v45], [e31_72 l301005 l301004 v45 i, e31_9 l301004 v45 i, e31_54 l301005 l301004 v45 i, e31_0 g, e31_16 l301025]⟩ : St)) (by kernel_rfl) (by kernel_rfl) trivial ?_
               obtain ⟨o1, h⟩ := h
               refine drq (by kernel_rfl) [7, 9, 10] (ob := (Ts 1 (inIdx i2 (l301005.getD ((((l301004.getD ((v45).toNat) ([] : LN)).getD ((i).toNat) z3).2.2).toNat) ([] : LN)).length ∧ Ts 1 True))) (done' := [10, 9, 7, 8, 6, 5, 4, 3, 2, 1, 0]) (st' := (⟨74, [e31_32, sI 1 v45, sp 5 5, e31_14 g l301004 v45 i, sI 7 i2, e31_63 l301005 l301004 v45 i i2, e31_134, sI 75 v45, e31_29 l301003 v45, sI 79 i, e31_108 w, e31_124, sI 158 v45, e31_67 l30100, sI 197 v45], [e31_9 l301004 v45 i, e31_54 l301005 l301004 v45 i, e31_0 g, e31_16 l301025, e31_72 l301005 l301004 v45 i]⟩ : St)) (by kernel_rfl) (tsI 1 ⟨o1, tsI 1 trivial⟩) ?_
               refine awd_one (i := 11) (by kernel_rfl) ?_
               refine dsq (ob := True) (st' := (⟨74, [e31_32, sI 1 v45, sp 5 5, e31_14 g l301004 v45 i, sI 7 i2, sp 8 8, e31_63 l301005 l301004 v45 i i2, e31_134, sI 75 v45, e31_29 l301003 v45, sI 79 i, e31_108 w, e31_124, sI 158 v45, e31_67 l30100, sI 197 v45], [e31_9 l301004 v45 i, hB 8 [.pI (0 : Int), .pI (0 : Int), .pI (0 : Int)], e31_54 l301005 l301004 v45 i, e31_0 g, e31_16 l301025, e31_72 l301005 l301004 v45 i]⟩ : St)) rfl (by kernel_rfl) trivial ?_
               refine awd_one (i := 12) (by kernel_rfl) ?_
               refine dsq (ob := True) (st' := (⟨74, [e31_32, sI 1 v45, sp 5 5, e31_14 g l301004 v45 i, sI 7 i2, sp 8 8, e31_134, sI 75 v45, e31_29 l301003 v45, sI 79 i, e31_108 w, e31_124, sI 158 v45, e31_67 l30100, sI 197 v45], [e31_9 l301004 v45 i, e31_37 l301005 l301004 v45 i i2, e31_54 l301005 l301004 v45 i, e31_0 g, e31_16 l301025, e31_72 l301005 l301004 v45 i]⟩ : St)) rfl (by kernel_rfl) trivial ?_
               refine dcl 30100 82000 true (ob := (l301005.getD ((((l301004.getD ((v45).toNat) ([] : LN)).getD ((i).toNat) z3).2.2).toNat) ([] : LN)) = l301005.getD ((((l301004.getD ((v45).toNat) ([] : LN)).getD ((i).toNat) z3).2.2).toNat) ([] : LN)) (C := [(30100, 82001)]) (st' := (⟨74, [e31_32, sI 1 v45, sp 5 5, e31_14 g l301004 v45 i, sI 7 i2, sp 8 8, e31_134, sI 75 v45, e31_29 l301003 v45, sI 79 i, e31_108 w, e31_124, sI 158 v45, e31_67 l30100, sI 197 v45], [e31_9 l301004 v45 i, e31_37 l301005 l301004 v45 i i2, e31_19 l301005, e31_0 g, e31_16 l301025]⟩ : St)) (by kernel_rfl) (by kernel_rfl) rfl ?_
               refine awd_done (by kernel_rfl) ?_
               refine thenQ_n ?_
               refine sr ?_
               refine rqT 2 ⟨74, [e31_32, sI 1 v45, sp 5 5, e31_14 g l301004 v45 i, sI 7 i2, sp 8 8, sp 52 30101, e31_64 l301005 l301004 v45 i i2, e31_134, sI 75 v45, e31_29 l301003 v45, sI 79 i, e31_108 w, e31_124, sI 158 v45, e31_67 l30100, sI 197 v45], [e31_9 l301004 v45 i, e31_37 l301005 l301004 v45 i i2, e31_19 l301005, e31_0 g, e31_16 l301025]⟩ (by kernel_rfl) ?_
               refine awl_conv [.ren 5 31000, .ren 8 31001] (st' := (⟨74, [e31_32, sI 1 v45, sp 5 31000, e31_14 g l301004 v45 i, sI 7 i2, sp 8 31001, sp 52 30101, e31_64 l301005 l301004 v45 i i2, e31_134, sI 75 v45, e31_29 l301003 v45, sI 79 i, e31_108 w, e31_124, sI 158 v45, e31_67 l30100, sI 197 v45], [e31_1 l301004 v45 i, e31_5 l301005 l301004 v45 i i2, e31_19 l301005, e31_0 g, e31_16 l301025]⟩ : St)) (by kernel_rfl) ?_
               refine awl_inlr [.t 4, .t 5] [31000, 31001, 30100, 30101, 30102] [.c (.ptr 30101 0), .agg [.pI (((l301005.getD ((((l301004.getD ((v45).toNat) ([] : LN)).getD ((i).toNat) z3).2.2).toNat) ([] : LN)).getD ((i2).toNat) z3).1), .pI (((l301005.getD ((((l301004.getD ((v45).toNat) ([] : LN)).getD ((i).toNat) z3).2.2).toNat) ([] : LN)).getD ((i2).toNat) z3).2.1), .pI (((l301005.getD ((((l301004.getD ((v45).toNat) ([] : LN)).getD ((i).toNat) z3).2.2).toNat) ([] : LN)).getD ((i2).toNat) z3).2.2)]] [] rfl rfl (by kernel_rfl) rfl (by kernel_rfl) Try.call91 (by kernel_rfl) (by kernel_rfl) Try.func91 rfl rfl (by kernel_rfl) ?_
               refine aw_conv [] (st' := (⟨27, [e31_32, sA 1 [.pI (((l301005.getD ((((l301004.getD ((v45).toNat) ([] : LN)).getD ((i).toNat) z3).2.2).toNat) ([] : LN)).getD ((i2).toNat) z3).1), .pI (((l301005.getD ((((l301004.getD ((v45).toNat) ([] : LN)).getD ((i).toNat) z3).2.2).toNat) ([] : LN)).getD ((i2).toNat) z3).2.1), .pI (((l301005.getD ((((l301004.getD ((v45).toNat) ([] : LN)).getD ((i).toNat) z3).2.2).toNat) ([] : LN)).getD ((i2).toNat) z3).2.2)], e31_165, sI 28 v45, sp 32 31000, e31_53 g l301004 v45 i, sI 34 i2, sp 35 31001, sp 79 30101, sA 80 [.pI (((l301005.getD ((((l301004.getD ((v45).toNat) ([] : LN)).getD ((i).toNat) z3).2.2).toNat) ([] : LN)).getD ((i2).toNat) z3).1), .pI (((l301005.getD ((((l301004.getD ((v45).toNat) ([] : LN)).getD ((i).toNat) z3).2.2).toNat) ([] : LN)).getD ((i2).toNat) z3).2.1), .pI (((l301005.getD ((((l301004.getD ((v45).toNat) ([] : LN)).getD ((i).toNat) z3).2.2).toNat) ([] : LN)).getD ((i2).toNat) z3).2.2)], sp 101 30101, sI 102 v45, e31_101 l301003 v45, sI 106 i, s1 180 (.pS w), sp 184 30101, sI 185 v45, e31_154 l30100, sI 224 v45], [e31_1 l301004 v45 i, e31_5 l301005 l301004 v45 i i2, e31_19 l301005, e31_0 g, e31_16 l301025]⟩ : St)) (by kernel_rfl) ?_
               refine withJoinR (σ := Int × Bool) (fun s => (⟨27, [sI 4 s.1, sB 5 s.2, e31_165, sI 28 v45, sp 32 31000, e31_53 g l301004 v45 i, sI 34 i2, sp 35 31001, sp 101 30101, sI 102 v45, e31_101 l301003 v45, sI 106 i, s1 180 (.pS w), sp 184 30101, sI 185 v45, e31_154 l30100, sI 224 v45], [e31_19 l301005, e31_0 g, e31_16 l301025, e31_1 l301004 v45 i, e31_5 l301005 l301004 v45 i i2]⟩ : St)) (fun s => VC31_k14 g v45 i l301004 i2 l301005 l301025 X6 s.1 s.2) (fun s h => ?_) (fun rest13 => ?_)
               ·obtain ⟨v42, v52⟩ := s
                have h : VC31_k14 g v45 i l301004 i2 l301005 l301025 X6 v42 v52 := h
                unfold VC31_k14 at h
                refine inlR_n (ob := (True ∧ True ∧ True)) (.tup [.c (.pI v42), .c (.pB v52)]) (by kernel_rfl) ⟨trivial, trivial, trivial⟩ rfl ?_
                refine lpr (st' := (⟨74, [e31_32, sI 1 v45, sp 5 31000, e31_14 g l301004 v45 i, sI 7 i2, sp 8 31001, (54, [], .tup [.c (.pI v42), .c (.pB v52)]), e31_134, sI 75 v45, e31_29 l301003 v45, sI 79 i, e31_108 w, e31_124, sI 158 v45, e31_67 l30100, sI 197 v45], [e31_19 l301005, e31_0 g, e31_16 l301025, e31_1 l301004 v45 i, e31_5 l301005 l301004 v45 i i2]⟩ : St)) (by kernel_rfl) ?_
                refine rqT 5 ⟨74, [e31_32, sI 1 v45, sp 5 31000, e31_14 g l301004 v45 i, sI 7 i2, sp 8 31001, sI 9 v42, sB 10 v52, e31_134, sI 75 v45, e31_29 l301003 v45, sI 79 i, e31_108 w, e31_124, sI 158 v45, e31_67 l30100, sI 197 v45], [e31_19 l301005, e31_0 g, e31_16 l301025, e31_1 l301004 v45 i, e31_5 l301005 l301004 v45 i i2]⟩ (by kernel_rfl) ?_
                refine nsr ?_
                refine rq 6 (ob := (Ts 2 (Ti 3 (v52 = true → True) (Ts 1 True)))) (st' := (⟨74, [e31_32, sI 1 v45, sp 5 31000, e31_14 g l301004 v45 i, sI 7 i2, sp 8 31001, sB 62 (v52 && (decide (v42 = (g.1 + (g.2.2.2.getD (((l301004.getD ((v45).toNat) ([] : LN)).getD ((i).toNat) z3).1).toNat ((0 : Int), ([] : LI))).1)))), e31_134, sI 75 v45, e31_29 l301003 v45, sI 79 i, e31_108 w, e31_124, sI 158 v45, e31_67 l30100, sI 197 v45], [e31_19 l301005, e31_0 g, e31_16 l301025, e31_1 l301004 v45 i, e31_5 l301005 l301004 v45 i i2]⟩ : St)) (by kernel_rfl) (tsI 2 (tiI 3 (fun _ => trivial) (tsI 1 trivial))) ?_
                refine nn ?_
                refine withJoin (σ := (List LN) × (List (List ((Int × (Int × Int)) × Int)))) (fun s => (⟨74, [e31_32, sI 1 v45, sp 5 31000, e31_14 g l301004 v45 i, sI 7 i2, e31_134, sI 75 v45, e31_29 l301003 v45, sI 79 i, e31_108 w, e31_124, sI 158 v45, e31_67 l30100, sI 197 v45], [(30100, [], .deep 110 113 (.sl t3) s.1 []), e31_0 g, (30102, [], .deep 141 0 (.mp t3 tI) s.2 []), e31_1 l301004 v45 i]⟩ : St)) (fun s => VC31_k15 i2 X6 s.1 s.2) (fun s h => ?_) (fun rest11 => ?_)
                ·obtain ⟨l301006, l301026⟩ := s
                 have h : VC31_k15 i2 X6 l301006 l301026 := h
                 unfold VC31_k15 at h
                 refine blockQ_n ?_
                 refine thenQ_n ?_
                 refine aw_region ?_
                 obtain ⟨o1, h⟩ := h
                 refine rq 3 (ob := (Ts 1 (InR (i2 + (1 : Int)) ∧ Ts 1 True))) (st' := (⟨74, [e31_32, sI 1 v45, sp 5 31000, e31_14 g l301004 v45 i, sI 7 (i2 + (1 : Int)), e31_134, sI 75 v45, e31_29 l301003 v45, sI 79 i, e31_108 w, e31_124, sI 158 v45, e31_67 l30100, sI 197 v45], [e31_146 l301006, e31_0 g, e31_137 l301026, e31_1 l301004 v45 i]⟩ : St)) (by kernel_rfl) (tsI 1 ⟨o1, tsI 1 trivial⟩) ?_
                 refine awl_conv [.ren 31000 51000, .ren 51000 5, .prune [0, 1, 5, 6, 7, 74, 75, 78, 79, 153, 157, 158, 196, 197] [5, 30100, 30101, 30102]] (st' := (⟨74, [e31_32, sI 1 v45, sp 5 5, e31_14 g l301004 v45 i, sI 7 (i2 + (1 : Int)), e31_134, sI 75 v45, e31_29 l301003 v45, sI 79 i, e31_108 w, e31_124, sI 158 v45, e31_67 l30100, sI 197 v45], [e31_9 l301004 v45 i, e31_146 l301006, e31_0 g, e31_137 l301026]⟩ : St)) (by kernel_rfl) ?_
                 refine awl_nil ?_
                 exact thenQ_n ⟨((i2 + (1 : Int)), l301006, l301026), rfl, h⟩
                ·refine aw_cond (b := (v52 && (decide (v42 = (g.1 + (g.2.2.2.getD (((l301004.getD ((v45).toNat) ([] : LN)).getD ((i).toNat) z3).1).toNat ((0 : Int), ([] : LI))).1))))) (by kernel_rfl) (fun hb => ?_) (fun hb => ?_)
                 ·have h := h.1 hb
                  refine aw_region ?_
                  obtain ⟨o1, h⟩ := h
                  refine rq 10 (ob := (Ts 6 (InR (((l301005.getD ((((l301004.getD ((v45).toNat) ([] : LN)).getD ((i).toNat) z3).2.2).toNat) ([] : LN)).getD ((i2).toNat) z3).2.1 + (1 : Int)) ∧ Ts 3 True))) (st' := (⟨74, [e31_32, sI 1 v45, sp 5 31000, e31_14 g l301004 v45 i, sI 7 i2, sp 63 30101, sI 64 v45, sA 72 [.pI (((l301005.getD ((((l301004.getD ((v45).toNat) ([] : LN)).getD ((i).toNat) z3).2.2).toNat) ([] : LN)).getD ((i2).toNat) z3).1), .pI (((l301005.getD ((((l301004.getD ((v45).toNat) ([] : LN)).getD ((i).toNat) z3).2.2).toNat) ([] : LN)).getD ((i2).toNat) z3).2.1 + (1 : Int)), .pI (((l301005.getD ((((l301004.getD ((v45).toNat) ([] : LN)).getD ((i).toNat) z3).2.2).toNat) ([] : LN)).getD ((i2).toNat) z3).2.2)], e31_134, sI 75 v45, e31_29 l301003 v45, sI 79 i, e31_108 w, e31_124, sI 158 v45, e31_67 l30100, sI 197 v45], [e31_19 l301005, e31_0 g, e31_16 l301025, e31_1 l301004 v45 i]⟩ : St)) (by kernel_rfl) (tsI 6 ⟨o1, tsI 3 trivial⟩) ?_
                  refine awl_inlr [] [30100, 30101, 30102, 31000] [.c (.ptr 30101 0), .c (.pI v45), .agg [.pI (((l301005.getD ((((l301004.getD ((v45).toNat) ([] : LN)).getD ((i).toNat) z3).2.2).toNat) ([] : LN)).getD ((i2).toNat) z3).1), .pI (((l301005.getD ((((l301004.getD ((v45).toNat) ([] : LN)).getD ((i).toNat) z3).2.2).toNat) ([] : LN)).getD ((i2).toNat) z3).2.1 + (1 : Int)), .pI (((l301005.getD ((((l301004.getD ((v45).toNat) ([] : LN)).getD ((i).toNat) z3).2.2).toNat) ([] : LN)).getD ((i2).toNat) z3).2.2)]] [] rfl rfl (by kernel_rfl) rfl (by kernel_rfl) Try.call92 (by kernel_rfl) (by kernel_rfl) Try.func92 rfl rfl (by kernel_rfl) ?_
                  refine aw_conv [] (st' := (⟨54, [e31_32, sI 1 v45, sA 2 [.pI (((l301005.getD ((((l301004.getD ((v45).toNat) ([] : LN)).getD ((i).toNat) z3).2.2).toNat) ([] : LN)).getD ((i2).toNat) z3).1), .pI (((l301005.getD ((((l301004.getD ((v45).toNat) ([] : LN)).getD ((i).toNat) z3).2.2).toNat) ([] : LN)).getD ((i2).toNat) z3).2.1 + (1 : Int)), .pI (((l301005.getD ((((l301004.getD ((v45).toNat) ([] : LN)).getD ((i).toNat) z3).2.2).toNat) ([] : LN)).getD ((i2).toNat) z3).2.2)], e31_45, sI 55 v45, e31_126, e31_6 g l301004 v45 i, sI 61 i2, sp 117 30101, sI 118 v45, sA 126 [.pI (((l301005.getD ((((l301004.getD ((v45).toNat) ([] : LN)).getD ((i).toNat) z3).2.2).toNat) ([] : LN)).getD ((i2).toNat) z3).1), .pI (((l301005.getD ((((l301004.getD ((v45).toNat) ([] : LN)).getD ((i).toNat) z3).2.2).toNat) ([] : LN)).getD ((i2).toNat) z3).2.1 + (1 : Int)), .pI (((l301005.getD ((((l301004.getD ((v45).toNat) ([] : LN)).getD ((i).toNat) z3).2.2).toNat) ([] : LN)).getD ((i2).toNat) z3).2.2)], e31_117, sI 129 v45, e31_25 l301003 v45, sI 133 i, e31_102 w, e31_118, sI 212 v45, e31_55 l30100, sI 251 v45], [e31_19 l301005, e31_0 g, e31_16 l301025, e31_1 l301004 v45 i]⟩ : St)) (by kernel_rfl) ?_
                  refine srn 1 ⟨54, [e31_32, sI 1 v45, sp 5 5, e31_45, sI 55 v45, e31_126, e31_6 g l301004 v45 i, sI 61 i2, e31_117, sI 129 v45, e31_25 l301003 v45, sI 133 i, e31_102 w, e31_118, sI 212 v45, e31_55 l30100, sI 251 v45], [e31_3 l301005 l301004 v45 i i2, e31_19 l301005, e31_0 g, e31_16 l301025, e31_1 l301004 v45 i]⟩ (by kernel_rfl) rfl ?_
                  refine aw_seq ?_
                  refine awd_begin [] (by kernel_rfl) ?_
                  obtain ⟨o1, h⟩ := h
                  refine drq (by kernel_rfl) e31_n12 (ob := (Ts 5 (inIdx v45 l301025.length ∧ Ts 1 True))) (done' := e31_n13) (st' := (⟨54, [e31_32, sI 1 v45, sp 5 5, s1 14 (.el 30102 ((v45).toNat) 1), e31_57 l301005 l301004 v45 i i2, e31_45, sI 55 v45, e31_126, e31_6 g l301004 v45 i, sI 61 i2, e31_117, sI 129 v45, e31_25 l301003 v45, sI 133 i, e31_102 w, e31_118, sI 212 v45, e31_55 l30100, sI 251 v45], [e31_3 l301005 l301004 v45 i i2, e31_19 l301005, e31_0 g, e31_16 l301025, e31_1 l301004 v45 i]⟩ : St)) (by kernel_rfl) (tsI 5 ⟨o1, tsI 1 trivial⟩) ?_
                  refine dop 14 82000 [82001] (ob := True) (C := [(82001, 30102)]) (st' := (⟨54, [s1 14 (.ep 30102 82000 0), e31_32, sI 1 v45, sp 5 5, e31_57 l301005 l301004 v45 i i2, e31_45, sI 55 v45, e31_126, e31_6 g l301004 v45 i, sI 61 i2, e31_117, sI 129 v45, e31_25 l301003 v45, sI 133 i, e31_102 w, e31_118, sI 212 v45, e31_55 l30100, sI 251 v45], [e31_33 l301025 v45, e31_3 l301005 l301004 v45 i i2, e31_19 l301005, e31_0 g, e31_28 l301025 v45, e31_1 l301004 v45 i]⟩ : St)) (by kernel_rfl) (by kernel_rfl) trivial ?_
                  refine drq (by kernel_rfl) e31_n11 (ob := (Ts 7 True)) (done' := e31_n4) (st' := (⟨54, [e31_32, sI 1 v45, sp 5 5, e31_46 l301025 v45 l301005 l301004 i i2, e31_45, sI 55 v45, e31_126, e31_6 g l301004 v45 i, sI 61 i2, e31_117, sI 129 v45, e31_25 l301003 v45, sI 133 i, e31_102 w, e31_118, sI 212 v45, e31_55 l30100, sI 251 v45], [e31_3 l301005 l301004 v45 i i2, e31_19 l301005, e31_0 g, e31_28 l301025 v45, e31_1 l301004 v45 i, e31_33 l301025 v45]⟩ : St)) (by kernel_rfl) (tsI 7 trivial) ?_
                  refine dcl 30102 82000 true (ob := (l301025.getD ((v45).toNat) ([] : (List ((Int × (Int × Int)) × Int)))) = l301025.getD ((v45).toNat) ([] : (List ((Int × (Int × Int)) × Int)))) (C := [(30102, 82001)]) (st' := (⟨54, [e31_32, sI 1 v45, sp 5 5, e31_46 l301025 v45 l301005 l301004 i i2, e31_45, sI 55 v45, e31_126, e31_6 g l301004 v45 i, sI 61 i2, e31_117, sI 129 v45, e31_25 l301003 v45, sI 133 i, e31_102 w, e31_118, sI 212 v45, e31_55 l30100, sI 251 v45], [e31_3 l301005 l301004 v45 i i2, e31_19 l301005, e31_0 g, e31_16 l301025, e31_1 l301004 v45 i]⟩ : St)) (by kernel_rfl) (by kernel_rfl) rfl ?_
                  refine awd_done (by kernel_rfl) ?_
                  refine thenQ_n ?_
                  refine srn 2 ⟨54, [e31_32, sI 1 v45, sp 5 5, sB 21 (!(mget (l301025.getD ((v45).toNat) ([] : (List ((Int × (Int × Int)) × Int)))) (((l301005.getD ((((l301004.getD ((v45).toNat) ([] : LN)).getD ((i).toNat) z3).2.2).toNat) ([] : LN)).getD ((i2).toNat) z3).1, ((((l301005.getD ((((l301004.getD ((v45).toNat) ([] : LN)).getD ((i).toNat) z3).2.2).toNat) ([] : LN)).getD ((i2).toNat) z3).2.1 + (1 : Int)), ((l301005.getD ((((l301004.getD ((v45).toNat) ([] : LN)).getD ((i).toNat) z3).2.2).toNat) ([] : LN)).getD ((i2).toNat) z3).2.2))).isSome), e31_45, sI 55 v45, e31_126, e31_6 g l301004 v45 i, sI 61 i2, e31_117, sI 129 v45, e31_25 l301003 v45, sI 133 i, e31_102 w, e31_118, sI 212 v45, e31_55 l30100, sI 251 v45], [e31_3 l301005 l301004 v45 i i2, e31_19 l301005, e31_0 g, e31_16 l301025, e31_1 l301004 v45 i]⟩ (by kernel_rfl) rfl ?_
                  refine withJoin (σ := (List LN) × (List (List ((Int × (Int × Int)) × Int)))) (fun s => (⟨54, [e31_45, sI 55 v45, e31_126, e31_6 g l301004 v45 i, sI 61 i2, e31_117, sI 129 v45, e31_25 l301003 v45, sI 133 i, e31_102 w, e31_118, sI 212 v45, e31_55 l30100, sI 251 v45], [(30100, [], .deep 110 113 (.sl t3) s.1 []), e31_0 g, (30102, [], .deep 141 0 (.mp t3 tI) s.2 []), e31_1 l301004 v45 i]⟩ : St)) (fun s => VC31_k16 i2 X6 s.1 s.2) (fun s h => ?_) (fun rest12 => ?_)
                  ·obtain ⟨l301006, l301026⟩ := s
                   have h : VC31_k16 i2 X6 l301006 l301026 := h
                   unfold VC31_k16 at h
                   refine inlR_n (ob := True) (.tup []) (by kernel_rfl) trivial rfl ?_
                   refine lpr (st' := (⟨74, [e31_32, sI 1 v45, sp 5 31000, e31_14 g l301004 v45 i, sI 7 i2, e31_134, sI 75 v45, e31_29 l301003 v45, sI 79 i, e31_108 w, e31_124, sI 158 v45, e31_67 l30100, sI 197 v45], [e31_146 l301006, e31_0 g, e31_137 l301026, e31_1 l301004 v45 i]⟩ : St)) (by kernel_rfl) ?_
                   refine awl_nil ?_
                   exact rest11 (l301006, l301026) h
                  ·refine aw_cond (b := (!(mget (l301025.getD ((v45).toNat) ([] : (List ((Int × (Int × Int)) × Int)))) (((l301005.getD ((((l301004.getD ((v45).toNat) ([] : LN)).getD ((i).toNat) z3).2.2).toNat) ([] : LN)).getD ((i2).toNat) z3).1, ((((l301005.getD ((((l301004.getD ((v45).toNat) ([] : LN)).getD ((i).toNat) z3).2.2).toNat) ([] : LN)).getD ((i2).toNat) z3).2.1 + (1 : Int)), ((l301005.getD ((((l301004.getD ((v45).toNat) ([] : LN)).getD ((i).toNat) z3).2.2).toNat) ([] : LN)).getD ((i2).toNat) z3).2.2))).isSome)) (by kernel_rfl) (fun hb => ?_) (fun hb => ?_)
                   ·have h := h.1 hb
                    refine aw_seq ?_
                    refine awd_begin [30102, 82001] (by kernel_rfl) ?_
                    refine awd_memo ((inIdx v45 l301005.length ∧ (roomN ((l301005.getD ((v45).toNat) ([] : LN)).length + [(((l301005.getD ((((l301004.getD ((v45).toNat) ([] : LN)).getD ((i).toNat) z3).2.2).toNat) ([] : LN)).getD ((i2).toNat) z3).1, ((((l301005.getD ((((l301004.getD ((v45).toNat) ([] : LN)).getD ((i).toNat) z3).2.2).toNat) ([] : LN)).getD ((i2).toNat) z3).2.1 + (1 : Int)), ((l301005.getD ((((l301004.getD ((v45).toNat) ([] : LN)).getD ((i).toNat) z3).2.2).toNat) ([] : LN)).getD ((i2).toNat) z3).2.2))].length) ∧ (inIdx v45 l301005.length ∧ VC31_k16 i2 X6 (l301005.set ((v45).toNat) ((l301005.getD ((v45).toNat) ([] : LN)) ++ [(((l301005.getD ((((l301004.getD ((v45).toNat) ([] : LN)).getD ((i).toNat) z3).2.2).toNat) ([] : LN)).getD ((i2).toNat) z3).1, ((((l301005.getD ((((l301004.getD ((v45).toNat) ([] : LN)).getD ((i).toNat) z3).2.2).toNat) ([] : LN)).getD ((i2).toNat) z3).2.1 + (1 : Int)), ((l301005.getD ((((l301004.getD ((v45).toNat) ([] : LN)).getD ((i).toNat) z3).2.2).toNat) ([] : LN)).getD ((i2).toNat) z3).2.2))])) (l301025.set ((v45).toNat) (mset (l301025.getD ((v45).toNat) ([] : (List ((Int × (Int × Int)) × Int)))) (((l301005.getD ((((l301004.getD ((v45).toNat) ([] : LN)).getD ((i).toNat) z3).2.2).toNat) ([] : LN)).getD ((i2).toNat) z3).1, ((((l301005.getD ((((l301004.getD ((v45).toNat) ([] : LN)).getD ((i).toNat) z3).2.2).toNat) ([] : LN)).getD ((i2).toNat) z3).2.1 + (1 : Int)), ((l301005.getD ((((l301004.getD ((v45).toNat) ([] : LN)).getD ((i).toNat) z3).2.2).toNat) ([] : LN)).getD ((i2).toNat) z3).2.2)) ((l301005.getD ((v45).toNat) ([] : LN)).length : Int))))))) e31_n0 (⟨54, [e31_32, sI 1 v45, sp 5 5, e31_167, e31_18 l301005 l301004 v45 i i2, e31_120 l301005 v45, e31_45, sI 55 v45, e31_126, e31_6 g l301004 v45 i, sI 61 i2, e31_117, sI 129 v45, e31_25 l301003 v45, sI 133 i, e31_102 w, e31_118, sI 212 v45, e31_55 l30100, sI 251 v45], [e31_3 l301005 l301004 v45 i i2, e31_62 l301005 v45, e31_0 g, e31_28 l301025 v45, e31_1 l301004 v45 i, e31_33 l301025 v45, e31_87 l301005 v45]⟩ : St) (fun h => ?_) (fun m3 => ?_)
                    ·refine awd_one (i := 16) (by kernel_rfl) ?_
                     refine dsq (ob := True) (st' := (⟨54, [e31_32, sI 1 v45, sp 5 5, e31_45, sI 55 v45, e31_126, e31_6 g l301004 v45 i, sI 61 i2, e31_117, sI 129 v45, e31_25 l301003 v45, sI 133 i, e31_102 w, e31_118, sI 212 v45, e31_55 l30100, sI 251 v45], [e31_3 l301005 l301004 v45 i i2, e31_62 l301005 v45, e31_0 g, e31_28 l301025 v45, e31_1 l301004 v45 i, e31_43 l301025 v45 l301005 l301004 i i2, e31_87 l301005 v45]⟩ : St)) rfl (by kernel_rfl) trivial ?_
                     refine dcl 30100 82010 true (ob := (l301005.getD ((v45).toNat) ([] : LN)) = l301005.getD ((v45).toNat) ([] : LN)) (C := [(30100, 82011)]) (st' := (⟨54, [e31_32, sI 1 v45, sp 5 5, e31_45, sI 55 v45, e31_126, e31_6 g l301004 v45 i, sI 61 i2, e31_117, sI 129 v45, e31_25 l301003 v45, sI 133 i, e31_102 w, e31_118, sI 212 v45, e31_55 l30100, sI 251 v45], [e31_3 l301005 l301004 v45 i i2, e31_19 l301005, e31_0 g, e31_28 l301025 v45, e31_1 l301004 v45 i, e31_43 l301025 v45 l301005 l301004 i i2]⟩ : St)) (by kernel_rfl) (by kernel_rfl) rfl ?_
                     refine dcl 30102 82000 false (ob := True) (C := [(30102, 82001)]) (st' := (⟨54, [e31_32, sI 1 v45, sp 5 5, e31_45, sI 55 v45, e31_126, e31_6 g l301004 v45 i, sI 61 i2, e31_117, sI 129 v45, e31_25 l301003 v45, sI 133 i, e31_102 w, e31_118, sI 212 v45, e31_55 l30100, sI 251 v45], [e31_3 l301005 l301004 v45 i i2, e31_19 l301005, e31_0 g, e31_2 l301025 v45 l301005 l301004 i i2, e31_1 l301004 v45 i]⟩ : St)) (by kernel_rfl) (by kernel_rfl) trivial ?_
                     refine awd_done (by kernel_rfl) ?_
                     refine thenQ_n ?_
                     refine awd_begin [52, 30100, 82001] (by kernel_rfl) ?_
                     refine awd_memo ((roomN ((l301005.getD ((v45).toNat) ([] : LN)).length + [(((l301005.getD ((((l301004.getD ((v45).toNat) ([] : LN)).getD ((i).toNat) z3).2.2).toNat) ([] : LN)).getD ((i2).toNat) z3).1, ((((l301005.getD ((((l301004.getD ((v45).toNat) ([] : LN)).getD ((i).toNat) z3).2.2).toNat) ([] : LN)).getD ((i2).toNat) z3).2.1 + (1 : Int)), ((l301005.getD ((((l301004.getD ((v45).toNat) ([] : LN)).getD ((i).toNat) z3).2.2).toNat) ([] : LN)).getD ((i2).toNat) z3).2.2))].length) ∧ (inIdx v45 l301005.length ∧ VC31_k16 i2 X6 (l301005.set ((v45).toNat) ((l301005.getD ((v45).toNat) ([] : LN)) ++ [(((l301005.getD ((((l301004.getD ((v45).toNat) ([] : LN)).getD ((i).toNat) z3).2.2).toNat) ([] : LN)).getD ((i2).toNat) z3).1, ((((l301005.getD ((((l301004.getD ((v45).toNat) ([] : LN)).getD ((i).toNat) z3).2.2).toNat) ([] : LN)).getD ((i2).toNat) z3).2.1 + (1 : Int)), ((l301005.getD ((((l301004.getD ((v45).toNat) ([] : LN)).getD ((i).toNat) z3).2.2).toNat) ([] : LN)).getD ((i2).toNat) z3).2.2))])) (l301025.set ((v45).toNat) (mset (l301025.getD ((v45).toNat) ([] : (List ((Int × (Int × Int)) × Int)))) (((l301005.getD ((((l301004.getD ((v45).toNat) ([] : LN)).getD ((i).toNat) z3).2.2).toNat) ([] : LN)).getD ((i2).toNat) z3).1, ((((l301005.getD ((((l301004.getD ((v45).toNat) ([] : LN)).getD ((i).toNat) z3).2.2).toNat) ([] : LN)).getD ((i2).toNat) z3).2.1 + (1 : Int)), ((l301005.getD ((((l301004.getD ((v45).toNat) ([] : LN)).getD ((i).toNat) z3).2.2).toNat) ([] : LN)).getD ((i2).toNat) z3).2.2)) ((l301005.getD ((v45).toNat) ([] : LN)).length : Int)))))) e31_n1 (⟨54, [e31_81, sI 42 v45, e31_151, e31_143, e31_45, sI 55 v45, e31_126, e31_6 g l301004 v45 i, sI 61 i2, e31_117, sI 129 v45, e31_25 l301003 v45, sI 133 i, e31_102 w, e31_118, sI 212 v45, e31_55 l30100, sI 251 v45], [e31_30 l301005 l301004 v45 i i2, e31_41 l301005 v45, e31_0 g, e31_2 l301025 v45 l301005 l301004 i i2, e31_1 l301004 v45 i, e31_80 l301005 v45]⟩ : St) (fun h => ?_) (fun m4 => ?_)
                     ·refine awd_one (i := 14) (by kernel_rfl) ?_
                      obtain ⟨o1, h⟩ := h
                      refine dsq (ob := roomN ((l301005.getD ((v45).toNat) ([] : LN)).length + [(((l301005.getD ((((l301004.getD ((v45).toNat) ([] : LN)).getD ((i).toNat) z3).2.2).toNat) ([] : LN)).getD ((i2).toNat) z3).1, ((((l301005.getD ((((l301004.getD ((v45).toNat) ([] : LN)).getD ((i).toNat) z3).2.2).toNat) ([] : LN)).getD ((i2).toNat) z3).2.1 + (1 : Int)), ((l301005.getD ((((l301004.getD ((v45).toNat) ([] : LN)).getD ((i).toNat) z3).2.2).toNat) ([] : LN)).getD ((i2).toNat) z3).2.2))].length)) (st' := (⟨54, [e31_81, sI 42 v45, e31_161, e31_45, sI 55 v45, e31_126, e31_6 g l301004 v45 i, sI 61 i2, e31_117, sI 129 v45, e31_25 l301003 v45, sI 133 i, e31_102 w, e31_118, sI 212 v45, e31_55 l30100, sI 251 v45], [e31_22 l301005 v45 l301004 i i2, e31_94 l301005 v45, e31_0 g, e31_2 l301025 v45 l301005 l301004 i i2, e31_1 l301004 v45 i]⟩ : St)) rfl (by kernel_rfl) o1 ?_
                      obtain ⟨o1, h⟩ := h
                      refine drq (by kernel_rfl) [15] (ob := (inIdx v45 l301005.length ∧ True)) (done' := e31_n2) (st' := (⟨54, [e31_161, s1 53 (.el 30100 ((v45).toNat) 1), e31_45, sI 55 v45, e31_126, e31_6 g l301004 v45 i, sI 61 i2, e31_117, sI 129 v45, e31_25 l301003 v45, sI 133 i, e31_102 w, e31_118, sI 212 v45, e31_55 l30100, sI 251 v45], [e31_22 l301005 v45 l301004 i i2, e31_94 l301005 v45, e31_0 g, e31_2 l301025 v45 l301005 l301004 i i2, e31_1 l301004 v45 i]⟩ : St)) (by kernel_rfl) (⟨o1, trivial⟩) ?_
                      refine dai 53 82000 (ob := ((v45).toNat) = ((v45).toNat)) (C := []) (st' := (⟨54, [s1 53 (.ep 30100 82000 0), e31_161, e31_45, sI 55 v45, e31_126, e31_6 g l301004 v45 i, sI 61 i2, e31_117, sI 129 v45, e31_25 l301003 v45, sI 133 i, e31_102 w, e31_118, sI 212 v45, e31_55 l30100, sI 251 v45], [e31_22 l301005 v45 l301004 i i2, e31_94 l301005 v45, e31_0 g, e31_2 l301025 v45 l301005 l301004 i i2, e31_1 l301004 v45 i]⟩ : St)) (by kernel_rfl) (by kernel_rfl) rfl ?_
                      refine awd_one (i := 16) (by kernel_rfl) ?_
                      refine dsq (ob := True) (st' := (⟨54, [e31_45, sI 55 v45, e31_126, e31_6 g l301004 v45 i, sI 61 i2, e31_117, sI 129 v45, e31_25 l301003 v45, sI 133 i, e31_102 w, e31_118, sI 212 v45, e31_55 l30100, sI 251 v45], [e31_22 l301005 v45 l301004 i i2, (30100, [], .deep 110 113 (.sl t3) l301005 [(82000, ((v45).toNat), [.own 52])]), e31_0 g, e31_2 l301025 v45 l301005 l301004 i i2, e31_1 l301004 v45 i]⟩ : St)) rfl (by kernel_rfl) trivial ?_
                      refine dcl 30100 82000 false (ob := True) (C := [(30100, 52)]) (st' := (⟨54, [e31_45, sI 55 v45, e31_126, e31_6 g l301004 v45 i, sI 61 i2, e31_117, sI 129 v45, e31_25 l301003 v45, sI 133 i, e31_102 w, e31_118, sI 212 v45, e31_55 l30100, sI 251 v45], [(30100, [], .deep 110 113 (.sl t3) (l301005.set ((v45).toNat) ((l301005.getD ((v45).toNat) ([] : LN)) ++ [(((l301005.getD ((((l301004.getD ((v45).toNat) ([] : LN)).getD ((i).toNat) z3).2.2).toNat) ([] : LN)).getD ((i2).toNat) z3).1, ((((l301005.getD ((((l301004.getD ((v45).toNat) ([] : LN)).getD ((i).toNat) z3).2.2).toNat) ([] : LN)).getD ((i2).toNat) z3).2.1 + (1 : Int)), ((l301005.getD ((((l301004.getD ((v45).toNat) ([] : LN)).getD ((i).toNat) z3).2.2).toNat) ([] : LN)).getD ((i2).toNat) z3).2.2))])) []), e31_0 g, e31_2 l301025 v45 l301005 l301004 i i2, e31_1 l301004 v45 i]⟩ : St)) (by kernel_rfl) (by kernel_rfl) trivial ?_
                      refine awd_done (by kernel_rfl) ?_
                      exact rest12 ((l301005.set ((v45).toNat) ((l301005.getD ((v45).toNat) ([] : LN)) ++ [(((l301005.getD ((((l301004.getD ((v45).toNat) ([] : LN)).getD ((i).toNat) z3).2.2).toNat) ([] : LN)).getD ((i2).toNat) z3).1, ((((l301005.getD ((((l301004.getD ((v45).toNat) ([] : LN)).getD ((i).toNat) z3).2.2).toNat) ([] : LN)).getD ((i2).toNat) z3).2.1 + (1 : Int)), ((l301005.getD ((((l301004.getD ((v45).toNat) ([] : LN)).getD ((i).toNat) z3).2.2).toNat) ([] : LN)).getD ((i2).toNat) z3).2.2))])), (l301025.set ((v45).toNat) (mset (l301025.getD ((v45).toNat) ([] : (List ((Int × (Int × Int)) × Int)))) (((l301005.getD ((((l301004.getD ((v45).toNat) ([] : LN)).getD ((i).toNat) z3).2.2).toNat) ([] : LN)).getD ((i2).toNat) z3).1, ((((l301005.getD ((((l301004.getD ((v45).toNat) ([] : LN)).getD ((i).toNat) z3).2.2).toNat) ([] : LN)).getD ((i2).toNat) z3).2.1 + (1 : Int)), ((l301005.getD ((((l301004.getD ((v45).toNat) ([] : LN)).getD ((i).toNat) z3).2.2).toNat) ([] : LN)).getD ((i2).toNat) z3).2.2)) ((l301005.getD ((v45).toNat) ([] : LN)).length : Int)))) h
                     ·obtain ⟨o1, h⟩ := h
                      refine drq (by kernel_rfl) e31_n7 (ob := (Ts 10 (inIdx v45 l301005.length ∧ Ts 1 True))) (done' := e31_n8) (st' := (⟨54, [e31_81, sI 42 v45, s1 48 (.el 30100 ((v45).toNat) 1), e31_35 l301005 l301004 v45 i i2, e31_45, sI 55 v45, e31_126, e31_6 g l301004 v45 i, sI 61 i2, e31_117, sI 129 v45, e31_25 l301003 v45, sI 133 i, e31_102 w, e31_118, sI 212 v45, e31_55 l30100, sI 251 v45], [e31_19 l301005, e31_0 g, e31_2 l301025 v45 l301005 l301004 i i2, e31_1 l301004 v45 i]⟩ : St)) (by kernel_rfl) (tsI 10 ⟨o1, tsI 1 trivial⟩) ?_
                      refine dop 48 82000 [82001] (ob := True) (C := [(82001, 30100)]) (st' := (⟨54, [e31_166, e31_81, sI 42 v45, e31_35 l301005 l301004 v45 i i2, e31_45, sI 55 v45, e31_126, e31_6 g l301004 v45 i, sI 61 i2, e31_117, sI 129 v45, e31_25 l301003 v45, sI 133 i, e31_102 w, e31_118, sI 212 v45, e31_55 l30100, sI 251 v45], [e31_80 l301005 v45, e31_41 l301005 v45, e31_0 g, e31_2 l301025 v45 l301005 l301004 i i2, e31_1 l301004 v45 i]⟩ : St)) (by kernel_rfl) (by kernel_rfl) trivial ?_
                      refine awd_two (i := 11) (j := 13) (by kernel_rfl) ?_ ?_
                      ·have h := h
                       refine dsq (ob := True) (st' := (⟨54, [e31_81, sI 42 v45, e31_151, e31_35 l301005 l301004 v45 i i2, e31_45, sI 55 v45, e31_126, e31_6 g l301004 v45 i, sI 61 i2, e31_117, sI 129 v45, e31_25 l301003 v45, sI 133 i, e31_102 w, e31_118, sI 212 v45, e31_55 l30100, sI 251 v45], [e31_41 l301005 v45, e31_0 g, e31_2 l301025 v45 l301005 l301004 i i2, e31_1 l301004 v45 i, e31_80 l301005 v45]⟩ : St)) rfl (by kernel_rfl) trivial ?_
                       refine awd_one (i := 13) (by kernel_rfl) ?_
                       refine dsq (ob := True) (st' := (⟨54, [e31_81, sI 42 v45, e31_151, e31_143, e31_45, sI 55 v45, e31_126, e31_6 g l301004 v45 i, sI 61 i2, e31_117, sI 129 v45, e31_25 l301003 v45, sI 133 i, e31_102 w, e31_118, sI 212 v45, e31_55 l30100, sI 251 v45], [e31_30 l301005 l301004 v45 i i2, e31_41 l301005 v45, e31_0 g, e31_2 l301025 v45 l301005 l301004 i i2, e31_1 l301004 v45 i, e31_80 l301005 v45]⟩ : St)) rfl (by kernel_rfl) trivial ?_
                       exact m4 h
                      ·have h := h
                       refine dsq (ob := True) (st' := (⟨54, [e31_81, sI 42 v45, e31_166, e31_143, e31_45, sI 55 v45, e31_126, e31_6 g l301004 v45 i, sI 61 i2, e31_117, sI 129 v45, e31_25 l301003 v45, sI 133 i, e31_102 w, e31_118, sI 212 v45, e31_55 l30100, sI 251 v45], [e31_30 l301005 l301004 v45 i i2, e31_41 l301005 v45, e31_0 g, e31_2 l301025 v45 l301005 l301004 i i2, e31_1 l301004 v45 i, e31_80 l301005 v45]⟩ : St)) rfl (by kernel_rfl) trivial ?_
                       refine awd_one (i := 11) (by kernel_rfl) ?_
                       refine dsq (ob := True) (st' := (⟨54, [e31_81, sI 42 v45, e31_151, e31_143, e31_45, sI 55 v45, e31_126, e31_6 g l301004 v45 i, sI 61 i2, e31_117, sI 129 v45, e31_25 l301003 v45, sI 133 i, e31_102 w, e31_118, sI 212 v45, e31_55 l30100, sI 251 v45], [e31_30 l301005 l301004 v45 i i2, e31_41 l301005 v45, e31_0 g, e31_2 l301025 v45 l301005 l301004 i i2, e31_1 l301004 v45 i, e31_80 l301005 v45]⟩ : St)) rfl (by kernel_rfl) trivial ?_
                       refine awd_perm e31_n1 (by kernel_rfl) (by kernel_rfl) ?_
                       exact m4 h
                    ·obtain ⟨o1, o2, h⟩ := h
                     refine drq (by kernel_rfl) e31_n5 (ob := (Ts 5 (inIdx v45 l301025.length ∧ Ts 6 (inIdx v45 l301005.length ∧ True)))) (done' := e31_n6) (st' := (⟨54, [e31_32, sI 1 v45, sp 5 5, s1 27 (.el 30102 ((v45).toNat) 1), e31_18 l301005 l301004 v45 i i2, e31_171 v45, e31_45, sI 55 v45, e31_126, e31_6 g l301004 v45 i, sI 61 i2, e31_117, sI 129 v45, e31_25 l301003 v45, sI 133 i, e31_102 w, e31_118, sI 212 v45, e31_55 l30100, sI 251 v45], [e31_3 l301005 l301004 v45 i i2, e31_19 l301005, e31_0 g, e31_16 l301025, e31_1 l301004 v45 i]⟩ : St)) (by kernel_rfl) (tsI 5 (⟨o1, tsI 6 ⟨o2, trivial⟩⟩)) ?_
                     refine dop 27 82000 [82001] (ob := True) (C := [(82001, 30102)]) (st' := (⟨54, [e31_147, e31_32, sI 1 v45, sp 5 5, e31_18 l301005 l301004 v45 i i2, e31_171 v45, e31_45, sI 55 v45, e31_126, e31_6 g l301004 v45 i, sI 61 i2, e31_117, sI 129 v45, e31_25 l301003 v45, sI 133 i, e31_102 w, e31_118, sI 212 v45, e31_55 l30100, sI 251 v45], [e31_33 l301025 v45, e31_3 l301005 l301004 v45 i i2, e31_19 l301005, e31_0 g, e31_28 l301025 v45, e31_1 l301004 v45 i]⟩ : St)) (by kernel_rfl) (by kernel_rfl) trivial ?_
                     refine dop 35 82010 [82011] (ob := True) (C := [(82011, 30100)]) (st' := (⟨54, [s1 35 (.ep 30100 82010 0), e31_147, e31_32, sI 1 v45, sp 5 5, e31_18 l301005 l301004 v45 i i2, e31_45, sI 55 v45, e31_126, e31_6 g l301004 v45 i, sI 61 i2, e31_117, sI 129 v45, e31_25 l301003 v45, sI 133 i, e31_102 w, e31_118, sI 212 v45, e31_55 l30100, sI 251 v45], [e31_87 l301005 v45, e31_33 l301025 v45, e31_3 l301005 l301004 v45 i i2, e31_62 l301005 v45, e31_0 g, e31_28 l301025 v45, e31_1 l301004 v45 i]⟩ : St)) (by kernel_rfl) (by kernel_rfl) trivial ?_
                     refine drq (by kernel_rfl) [14, 15] (ob := (Ts 2 True)) (done' := e31_n3) (st' := (⟨54, [e31_32, sI 1 v45, sp 5 5, e31_147, e31_18 l301005 l301004 v45 i i2, e31_120 l301005 v45, e31_45, sI 55 v45, e31_126, e31_6 g l301004 v45 i, sI 61 i2, e31_117, sI 129 v45, e31_25 l301003 v45, sI 133 i, e31_102 w, e31_118, sI 212 v45, e31_55 l30100, sI 251 v45], [e31_3 l301005 l301004 v45 i i2, e31_62 l301005 v45, e31_0 g, e31_28 l301025 v45, e31_1 l301004 v45 i, e31_33 l301025 v45, e31_87 l301005 v45]⟩ : St)) (by kernel_rfl) (tsI 2 trivial) ?_
                     refine awd_one (i := 6) (by kernel_rfl) ?_
                     refine dsq (ob := True) (st' := (⟨54, [e31_32, sI 1 v45, sp 5 5, e31_167, e31_18 l301005 l301004 v45 i i2, e31_120 l301005 v45, e31_45, sI 55 v45, e31_126, e31_6 g l301004 v45 i, sI 61 i2, e31_117, sI 129 v45, e31_25 l301003 v45, sI 133 i, e31_102 w, e31_118, sI 212 v45, e31_55 l30100, sI 251 v45], [e31_3 l301005 l301004 v45 i i2, e31_62 l301005 v45, e31_0 g, e31_28 l301025 v45, e31_1 l301004 v45 i, e31_33 l301025 v45, e31_87 l301005 v45]⟩ : St)) rfl (by kernel_rfl) trivial ?_
                     refine awd_perm e31_n0 (by kernel_rfl) (by kernel_rfl) ?_
                     exact m3 h
                   ·have h := h.2 hb
                    refine cpr (st' := (⟨54, [e31_45, sI 55 v45, e31_126, e31_6 g l301004 v45 i, sI 61 i2, e31_117, sI 129 v45, e31_25 l301003 v45, sI 133 i, e31_102 w, e31_118, sI 212 v45, e31_55 l30100, sI 251 v45], [e31_19 l301005, e31_0 g, e31_16 l301025, e31_1 l301004 v45 i]⟩ : St)) (by kernel_rfl) ?_
                    refine aw_skip ?_
                    exact rest12 (l301005, l301025) h
                 ·have h := h.2 hb
                  refine cpr (st' := (⟨74, [e31_32, sI 1 v45, sp 5 31000, e31_14 g l301004 v45 i, sI 7 i2, e31_134, sI 75 v45, e31_29 l301003 v45, sI 79 i, e31_108 w, e31_124, sI 158 v45, e31_67 l30100, sI 197 v45], [e31_19 l301005, e31_0 g, e31_16 l301025, e31_1 l301004 v45 i]⟩ : St)) (by kernel_rfl) ?_
                  refine aw_skip ?_
                  exact rest11 (l301005, l301025) h
               ·refine srn 3 ⟨27, [e31_32, sp 3 3, e31_165, sI 28 v45, sp 32 31000, e31_53 g l301004 v45 i, sI 34 i2, sp 35 31001, sp 101 30101, sI 102 v45, e31_101 l301003 v45, sI 106 i, s1 180 (.pS w), sp 184 30101, sI 185 v45, e31_154 l30100, sI 224 v45], [e31_38 l301005 l301004 v45 i i2, e31_19 l301005, e31_0 g, e31_16 l301025, e31_1 l301004 v45 i, e31_5 l301005 l301004 v45 i i2]⟩ (by kernel_rfl) rfl ?_
                refine aw_seq ?_
                refine awd_begin [] (by kernel_rfl) ?_
                obtain ⟨o1, h⟩ := h
                refine drq (by kernel_rfl) e31_n10 (ob := (Ts 7 (inIdx (((l301005.getD ((((l301004.getD ((v45).toNat) ([] : LN)).getD ((i).toNat) z3).2.2).toNat) ([] : LN)).getD ((i2).toNat) z3).1) g.2.2.2.length ∧ Ts 3 True))) (done' := e31_n9) (st' := (⟨27, [sp 3 3, s1 6 (.pS ((g.2.2.2.getD (((l301005.getD ((((l301004.getD ((v45).toNat) ([] : LN)).getD ((i).toNat) z3).2.2).toNat) ([] : LN)).getD ((i2).toNat) z3).1).toNat ((0 : Int), ([] : LI))).2)), e31_165, sI 28 v45, sp 32 31000, e31_53 g l301004 v45 i, sI 34 i2, sp 35 31001, sp 101 30101, sI 102 v45, e31_101 l301003 v45, sI 106 i, s1 180 (.pS w), sp 184 30101, sI 185 v45, e31_154 l30100, sI 224 v45], [e31_38 l301005 l301004 v45 i i2, e31_19 l301005, e31_0 g, e31_16 l301025, e31_1 l301004 v45 i, e31_5 l301005 l301004 v45 i i2]⟩ : St)) (by kernel_rfl) (tsI 7 ⟨o1, tsI 3 trivial⟩) ?_
                refine awd_done (by kernel_rfl) ?_
                refine thenQ_n ?_
                refine aw_seq ?_
                refine srn 5 ⟨27, [sp 3 3, s1 6 (.pS ((g.2.2.2.getD (((l301005.getD ((((l301004.getD ((v45).toNat) ([] : LN)).getD ((i).toNat) z3).2.2).toNat) ([] : LN)).getD ((i2).toNat) z3).1).toNat ((0 : Int), ([] : LI))).2)), sB 21 (decide (((l301005.getD ((((l301004.getD ((v45).toNat) ([] : LN)).getD ((i).toNat) z3).2.2).toNat) ([] : LN)).getD ((i2).toNat) z3).2.1 = (((g.2.2.2.getD (((l301005.getD ((((l301004.getD ((v45).toNat) ([] : LN)).getD ((i).toNat) z3).2.2).toNat) ([] : LN)).getD ((i2).toNat) z3).1).toNat ((0 : Int), ([] : LI))).2).length : Int))), e31_165, sI 28 v45, sp 32 31000, e31_53 g l301004 v45 i, sI 34 i2, sp 35 31001, sp 101 30101, sI 102 v45, e31_101 l301003 v45, sI 106 i, s1 180 (.pS w), sp 184 30101, sI 185 v45, e31_154 l30100, sI 224 v45], [e31_38 l301005 l301004 v45 i i2, e31_19 l301005, e31_0 g, e31_16 l301025, e31_1 l301004 v45 i, e31_5 l301005 l301004 v45 i i2]⟩ (by kernel_rfl) rfl ?_
                refine aw_cond (b := (decide (((l301005.getD ((((l301004.getD ((v45).toNat) ([] : LN)).getD ((i).toNat) z3).2.2).toNat) ([] : LN)).getD ((i2).toNat) z3).2.1 = (((g.2.2.2.getD (((l301005.getD ((((l301004.getD ((v45).toNat) ([] : LN)).getD ((i).toNat) z3).2.2).toNat) ([] : LN)).getD ((i2).toNat) z3).1).toNat ((0 : Int), ([] : LI))).2).length : Int)))) (by kernel_rfl) (fun hb => ?_) (fun hb => ?_)
                ·have h := h.1 hb
                 refine srn 2 ⟨27, [sI 4 (0 : Int), sB 5 false, e31_165, sI 28 v45, sp 32 31000, e31_53 g l301004 v45 i, sI 34 i2, sp 35 31001, sp 101 30101, sI 102 v45, e31_101 l301003 v45, sI 106 i, s1 180 (.pS w), sp 184 30101, sI 185 v45, e31_154 l30100, sI 224 v45], [e31_19 l301005, e31_0 g, e31_16 l301025, e31_1 l301004 v45 i, e31_5 l301005 l301004 v45 i i2]⟩ (by kernel_rfl) rfl ?_
                 refine aw_ret ?_
                 refine thenQ_r ?_
                 exact rest13 ((0 : Int), false) h
                ·have h := h.2 hb
                 refine aw_skip ?_
                 refine thenQ_n ?_
                 refine sr ?_
                 obtain ⟨o1, h⟩ := h
                 refine rq 7 (ob := (Ts 3 (inIdx (((l301005.getD ((((l301004.getD ((v45).toNat) ([] : LN)).getD ((i).toNat) z3).2.2).toNat) ([] : LN)).getD ((i2).toNat) z3).2.1) ((g.2.2.2.getD (((l301005.getD ((((l301004.getD ((v45).toNat) ([] : LN)).getD ((i).toNat) z3).2.2).toNat) ([] : LN)).getD ((i2).toNat) z3).1).toNat ((0 : Int), ([] : LI))).2).length ∧ Ts 3 True))) (st' := (⟨27, [sI 4 (((g.2.2.2.getD (((l301005.getD ((((l301004.getD ((v45).toNat) ([] : LN)).getD ((i).toNat) z3).2.2).toNat) ([] : LN)).getD ((i2).toNat) z3).1).toNat ((0 : Int), ([] : LI))).2).getD (((l301005.getD ((((l301004.getD ((v45).toNat) ([] : LN)).getD ((i).toNat) z3).2.2).toNat) ([] : LN)).getD ((i2).toNat) z3).2.1).toNat (0 : Int)), sB 5 true, e31_165, sI 28 v45, sp 32 31000, e31_53 g l301004 v45 i, sI 34 i2, sp 35 31001, sp 101 30101, sI 102 v45, e31_101 l301003 v45, sI 106 i, s1 180 (.pS w), sp 184 30101, sI 185 v45, e31_154 l30100, sI 224 v45], [e31_19 l301005, e31_0 g, e31_16 l301025, e31_1 l301004 v45 i, e31_5 l301005 l301004 v45 i i2]⟩ : St)) (by kernel_rfl) (tsI 3 ⟨o1, tsI 3 trivial⟩) ?_
                 refine nn ?_
                 refine aw_ret ?_
                 exact rest13 ((((g.2.2.2.getD (((l301005.getD ((((l301004.getD ((v45).toNat) ([] : LN)).getD ((i).toNat) z3).2.2).toNat) ([] : LN)).getD ((i2).toNat) z3).1).toNat ((0 : Int), ([] : LI))).2).getD (((l301005.getD ((((l301004.getD ((v45).toNat) ([] : LN)).getD ((i).toNat) z3).2.2).toNat) ([] : LN)).getD ((i2).toNat) z3).2.1).toNat (0 : Int)), true) h
              ·have h := h.2 hb
               refine cpr (st' := (⟨74, [e31_134, sI 75 v45, e31_29 l301003 v45, sI 79 i, e31_108 w, e31_124, sI 158 v45, e31_67 l30100, sI 197 v45], [e31_19 l301005, e31_0 g, e31_16 l301025]⟩ : St)) (by kernel_rfl) ?_
               refine aw_exit ?_
               refine thenQ_x ?_
               refine thenQ_x ?_
               refine blockQ_hit ?_
               exact rest10 (l301005, l301025) h
            ·have h := h.2 hb
             refine srn 7 ⟨78, [e31_32, sI 1 v45, e31_31 l301003 v45, sI 5 i, sI 7 v4, sB 67 (decide (g.1 ≤ v4)), e31_89 w, e31_100, sI 84 v45, e31_44 l30100, sI 123 v45], [e31_36 l301004, e31_0 g, e31_11 l301024]⟩ (by kernel_rfl) rfl ?_
             refine withJoin (σ := (List LN) × (List (List ((Int × (Int × Int)) × Int)))) (fun s => (⟨78, [e31_32, sI 1 v45, e31_31 l301003 v45, sI 5 i, e31_89 w, e31_100, sI 84 v45, e31_44 l30100, sI 123 v45], [(30100, [], .deep 110 113 (.sl t3) s.1 []), e31_0 g, (30102, [], .deep 141 0 (.mp t3 tI) s.2 [])]⟩ : St)) (fun s => VC31_k17 i X5 s.1 s.2) (fun s h => ?_) (fun rest14 => ?_)
             ·obtain ⟨l301005, l301025⟩ := s
              have h : VC31_k17 i X5 l301005 l301025 := h
              unfold VC31_k17 at h
              exact rest9 (l301005, l301025) h
             ·refine aw_cond (b := (decide (g.1 ≤ v4))) (by kernel_rfl) (fun hb => ?_) (fun hb => ?_)
              ·have h := h.1 hb
               refine aw_region ?_
               obtain ⟨o1, h⟩ := h
               refine rq 9 (ob := (Ts 8 (InR (v4 - g.1) ∧ True))) (st' := (⟨78, [e31_32, sI 1 v45, e31_31 l301003 v45, sI 5 i, sp 68 30101, sI 69 v45, sI 76 (v4 - g.1), e31_89 w, e31_100, sI 84 v45, e31_44 l30100, sI 123 v45], [e31_36 l301004, e31_0 g, e31_11 l301024]⟩ : St)) (by kernel_rfl) (tsI 8 ⟨o1, trivial⟩) ?_
               refine awl_inlr [] [30100, 30101, 30102] [.c (.ptr 30101 0), .c (.pI v45), .c (.pI (v4 - g.1))] [] rfl rfl (by kernel_rfl) rfl (by kernel_rfl) Try.call89 (by kernel_rfl) (by kernel_rfl) Try.func89 rfl rfl (by kernel_rfl) ?_
               refine aw_conv [] (st' := (⟨30, [e31_32, sI 1 v45, sI 2 (v4 - g.1), e31_169, sI 31 v45, e31_68 l301003 v45, sI 35 i, sp 98 30101, sI 99 v45, sI 106 (v4 - g.1), e31_160 w, e31_164, sI 114 v45, e31_116 l30100, sI 153 v45], [e31_36 l301004, e31_0 g, e31_11 l301024]⟩ : St)) (by kernel_rfl) ?_
               refine srn 7 ⟨30, [e31_32, sI 1 v45, sI 2 (v4 - g.1), e31_39 g, e31_84 g, sI 14 (0 : Int), e31_169, sI 31 v45, e31_68 l301003 v45, sI 35 i, e31_160 w, e31_164, sI 114 v45, e31_116 l30100, sI 153 v45], [e31_36 l301004, e31_0 g, e31_11 l301024]⟩ (by kernel_rfl) rfl ?_
               refine withJoin (σ := (List LN) × (List (List ((Int × (Int × Int)) × Int)))) (fun s => (⟨30, [e31_169, sI 31 v45, e31_68 l301003 v45, sI 35 i, e31_160 w, e31_164, sI 114 v45, e31_116 l30100, sI 153 v45], [(30100, [], .deep 110 113 (.sl t3) s.1 []), e31_0 g, (30102, [], .deep 141 0 (.mp t3 tI) s.2 [])]⟩ : St)) (fun s => VC31_k18 i X5 s.1 s.2) (fun s h => ?_) (fun rest15 => ?_)
               ·obtain ⟨l301005, l301025⟩ := s
                have h : VC31_k18 i X5 l301005 l301025 := h
                unfold VC31_k18 at h
                refine inlR_n (ob := True) (.tup []) (by kernel_rfl) trivial rfl ?_
                refine lpr (st' := (⟨78, [e31_32, sI 1 v45, e31_31 l301003 v45, sI 5 i, e31_89 w, e31_100, sI 84 v45, e31_44 l30100, sI 123 v45], [e31_19 l301005, e31_0 g, e31_16 l301025]⟩ : St)) (by kernel_rfl) ?_
                refine awl_nil ?_
                exact rest14 (l301005, l301025) h
               ·refine aw_block ?_
                refine aw_loop (σ := Int × (List LN) × (List (List ((Int × (Int × Int)) × Int)))) (fun s => (⟨30, [e31_32, sI 1 v45, sI 2 (v4 - g.1), e31_39 g, e31_84 g, sI 14 s.1, e31_169, sI 31 v45, e31_68 l301003 v45, sI 35 i, e31_160 w, e31_164, sI 114 v45, e31_116 l30100, sI 153 v45], [(30100, [], .deep 110 113 (.sl t3) s.2.1 []), e31_0 g, (30102, [], .deep 141 0 (.mp t3 tI) s.2.2 [])]⟩ : St)) (fun s X => VC31_l7 g v45 i X5 v4 s.1 s.2.1 s.2.2 X) (s0 := ((0 : Int), l301004, l301024)) (fun s X7 h => ?_) h
                obtain ⟨v14, l301005, l301025⟩ := s
                have h : VC31_l7 g v45 i X5 v4 v14 l301005 l301025 X7 := h
                unfold VC31_l7 at h
                refine srn 1 ⟨30, [e31_32, sI 1 v45, sI 2 (v4 - g.1), e31_39 g, e31_84 g, sI 14 v14, sB 15 (decide (v14 < (g.2.2.2.length : Int))), e31_169, sI 31 v45, e31_68 l301003 v45, sI 35 i, e31_160 w, e31_164, sI 114 v45, e31_116 l30100, sI 153 v45], [e31_19 l301005, e31_0 g, e31_16 l301025]⟩ (by kernel_rfl) rfl ?_
                refine aw_seq ?_
                refine aw_cond (b := (decide (v14 < (g.2.2.2.length : Int)))) (by kernel_rfl) (fun hb => ?_) (fun hb => ?_)
                ·have h := h.1 hb
                 refine aw_skip ?_
                 refine thenQ_n ?_
                 refine aw_seq ?_
                 refine aw_block ?_
                 refine sr ?_
                 obtain ⟨o1, h⟩ := h
                 refine rq 6 (ob := (Ts 1 (inIdx v14 g.2.2.2.length ∧ Ts 4 True))) (st' := (⟨30, [e31_32, sI 1 v45, sI 2 (v4 - g.1), sI 6 v14, sp 7 7, e31_39 g, e31_84 g, sI 14 v14, e31_169, sI 31 v45, e31_68 l301003 v45, sI 35 i, e31_160 w, e31_164, sI 114 v45, e31_116 l30100, sI 153 v45], [e31_141 g v14, e31_19 l301005, e31_0 g, e31_16 l301025]⟩ : St)) (by kernel_rfl) (tsI 1 ⟨o1, tsI 4 trivial⟩) ?_
                 refine nsr ?_
                 refine rqT 4 ⟨30, [e31_32, sI 1 v45, sI 2 (v4 - g.1), sI 6 v14, e31_39 g, e31_84 g, sI 14 v14, sB 22 (decide ((g.2.2.2.getD (v14).toNat ((0 : Int), ([] : LI))).1 = (v4 - g.1))), e31_169, sI 31 v45, e31_68 l301003 v45, sI 35 i, e31_160 w, e31_164, sI 114 v45, e31_116 l30100, sI 153 v45], [e31_19 l301005, e31_0 g, e31_16 l301025]⟩ (by kernel_rfl) ?_
                 refine nn ?_
                 refine withJoin (σ := (List LN) × (List (List ((Int × (Int × Int)) × Int)))) (fun s => (⟨30, [e31_32, sI 1 v45, sI 2 (v4 - g.1), e31_39 g, e31_84 g, sI 14 v14, e31_169, sI 31 v45, e31_68 l301003 v45, sI 35 i, e31_160 w, e31_164, sI 114 v45, e31_116 l30100, sI 153 v45], [(30100, [], .deep 110 113 (.sl t3) s.1 []), e31_0 g, (30102, [], .deep 141 0 (.mp t3 tI) s.2 [])]⟩ : St)) (fun s => VC31_k19 v14 X7 s.1 s.2) (fun s h => ?_) (fun rest16 => ?_)
                 ·obtain ⟨l301006, l301026⟩ := s
                  have h : VC31_k19 v14 X7 l301006 l301026 := h
                  unfold VC31_k19 at h
                  refine blockQ_n ?_
                  refine thenQ_n ?_
                  refine aw_region ?_
                  obtain ⟨o1, h⟩ := h
                  refine rq 2 (ob := (InR (v14 + (1 : Int)) ∧ Ts 1 True)) (st' := (⟨30, [e31_32, sI 1 v45, sI 2 (v4 - g.1), e31_39 g, e31_84 g, sI 14 (v14 + (1 : Int)), e31_169, sI 31 v45, e31_68 l301003 v45, sI 35 i, e31_160 w, e31_164, sI 114 v45, e31_116 l30100, sI 153 v45], [e31_146 l301006, e31_0 g, e31_137 l301026]⟩ : St)) (by kernel_rfl) (⟨o1, tsI 1 trivial⟩) ?_
                  refine awl_nil ?_
                  exact thenQ_n ⟨((v14 + (1 : Int)), l301006, l301026), rfl, h⟩
                 ·refine aw_cond (b := (decide ((g.2.2.2.getD (v14).toNat ((0 : Int), ([] : LI))).1 = (v4 - g.1)))) (by kernel_rfl) (fun hb => ?_) (fun hb => ?_)
                  ·have h := h.1 hb
                   refine aw_region ?_
                   refine rqT 5 ⟨30, [e31_32, sI 1 v45, sI 2 (v4 - g.1), e31_39 g, e31_84 g, sI 14 v14, sp 23 30101, sI 24 v45, sA 27 [.pI v14, .pI (0 : Int), .pI v45], e31_169, sI 31 v45, e31_68 l301003 v45, sI 35 i, e31_160 w, e31_164, sI 114 v45, e31_116 l30100, sI 153 v45], [e31_19 l301005, e31_0 g, e31_16 l301025]⟩ (by kernel_rfl) ?_
                   refine awl_inlr [] [30100, 30101, 30102] [.c (.ptr 30101 0), .c (.pI v45), .agg [.pI v14, .pI (0 : Int), .pI v45]] [] rfl rfl (by kernel_rfl) rfl (by kernel_rfl) Try.call92 (by kernel_rfl) (by kernel_rfl) Try.func92 rfl rfl (by kernel_rfl) ?_
                   refine aw_conv [] (st' := (⟨54, [e31_32, sI 1 v45, sA 2 [.pI v14, .pI (0 : Int), .pI v45], e31_45, sI 55 v45, e31_91 v4 g, e31_7 g, e31_27 g, sI 68 v14, sp 77 30101, sI 78 v45, sA 81 [.pI v14, .pI (0 : Int), .pI v45], e31_127, sI 85 v45, e31_26 l301003 v45, sI 89 i, e31_103 w, e31_119, sI 168 v45, e31_56 l30100, sI 207 v45], [e31_19 l301005, e31_0 g, e31_16 l301025]⟩ : St)) (by kernel_rfl) ?_
                   refine srn 1 ⟨54, [e31_32, sI 1 v45, sp 5 5, e31_45, sI 55 v45, e31_91 v4 g, e31_7 g, e31_27 g, sI 68 v14, e31_127, sI 85 v45, e31_26 l301003 v45, sI 89 i, e31_103 w, e31_119, sI 168 v45, e31_56 l30100, sI 207 v45], [e31_83 v14 v45, e31_19 l301005, e31_0 g, e31_16 l301025]⟩ (by kernel_rfl) rfl ?_
                   refine aw_seq ?_
                   refine awd_begin [] (by kernel_rfl) ?_
                   obtain ⟨o1, h⟩ := h
                   refine drq (by kernel_rfl) e31_n12 (ob := (Ts 5 (inIdx v45 l301025.length ∧ Ts 1 True))) (done' := e31_n13) (st' := (⟨54, [e31_32, sI 1 v45, sp 5 5, s1 14 (.el 30102 ((v45).toNat) 1), sA 16 [.pI v14, .pI (0 : Int), .pI v45], e31_45, sI 55 v45, e31_91 v4 g, e31_7 g, e31_27 g, sI 68 v14, e31_127, sI 85 v45, e31_26 l301003 v45, sI 89 i, e31_103 w, e31_119, sI 168 v45, e31_56 l30100, sI 207 v45], [e31_83 v14 v45, e31_19 l301005, e31_0 g, e31_16 l301025]⟩ : St)) (by kernel_rfl) (tsI 5 ⟨o1, tsI 1 trivial⟩) ?_
                   refine dop 14 82000 [82001] (ob := True) (C := [(82001, 30102)]) (st' := (⟨54, [s1 14 (.ep 30102 82000 0), e31_32, sI 1 v45, sp 5 5, sA 16 [.pI v14, .pI (0 : Int), .pI v45], e31_45, sI 55 v45, e31_91 v4 g, e31_7 g, e31_27 g, sI 68 v14, e31_127, sI 85 v45, e31_26 l301003 v45, sI 89 i, e31_103 w, e31_119, sI 168 v45, e31_56 l30100, sI 207 v45], [e31_33 l301025 v45, e31_83 v14 v45, e31_19 l301005, e31_0 g, e31_28 l301025 v45]⟩ : St)) (by kernel_rfl) (by kernel_rfl) trivial ?_
                   refine drq (by kernel_rfl) e31_n11 (ob := (Ts 7 True)) (done' := e31_n4) (st' := (⟨54, [e31_32, sI 1 v45, sp 5 5, sB 7 ((mget (l301025.getD ((v45).toNat) ([] : (List ((Int × (Int × Int)) × Int)))) (v14, ((0 : Int), v45))).isSome), e31_45, sI 55 v45, e31_91 v4 g, e31_7 g, e31_27 g, sI 68 v14, e31_127, sI 85 v45, e31_26 l301003 v45, sI 89 i, e31_103 w, e31_119, sI 168 v45, e31_56 l30100, sI 207 v45], [e31_83 v14 v45, e31_19 l301005, e31_0 g, e31_28 l301025 v45, e31_33 l301025 v45]⟩ : St)) (by kernel_rfl) (tsI 7 trivial) ?_
                   refine dcl 30102 82000 true (ob := (l301025.getD ((v45).toNat) ([] : (List ((Int × (Int × Int)) × Int)))) = l301025.getD ((v45).toNat) ([] : (List ((Int × (Int × Int)) × Int)))) (C := [(30102, 82001)]) (st' := (⟨54, [e31_32, sI 1 v45, sp 5 5, sB 7 ((mget (l301025.getD ((v45).toNat) ([] : (List ((Int × (Int × Int)) × Int)))) (v14, ((0 : Int), v45))).isSome), e31_45, sI 55 v45, e31_91 v4 g, e31_7 g, e31_27 g, sI 68 v14, e31_127, sI 85 v45, e31_26 l301003 v45, sI 89 i, e31_103 w, e31_119, sI 168 v45, e31_56 l30100, sI 207 v45], [e31_83 v14 v45, e31_19 l301005, e31_0 g, e31_16 l301025]⟩ : St)) (by kernel_rfl) (by kernel_rfl) rfl ?_
                   refine awd_done (by kernel_rfl) ?_
                   refine thenQ_n ?_
                   refine srn 2 ⟨54, [e31_32, sI 1 v45, sp 5 5, sB 21 (!(mget (l301025.getD ((v45).toNat) ([] : (List ((Int × (Int × Int)) × Int)))) (v14, ((0 : Int), v45))).isSome), e31_45, sI 55 v45, e31_91 v4 g, e31_7 g, e31_27 g, sI 68 v14, e31_127, sI 85 v45, e31_26 l301003 v45, sI 89 i, e31_103 w, e31_119, sI 168 v45, e31_56 l30100, sI 207 v45], [e31_83 v14 v45, e31_19 l301005, e31_0 g, e31_16 l301025]⟩ (by kernel_rfl) rfl ?_
                   refine withJoin (σ := (List LN) × (List (List ((Int × (Int × Int)) × Int)))) (fun s => (⟨54, [e31_45, sI 55 v45, e31_91 v4 g, e31_7 g, e31_27 g, sI 68 v14, e31_127, sI 85 v45, e31_26 l301003 v45, sI 89 i, e31_103 w, e31_119, sI 168 v45, e31_56 l30100, sI 207 v45], [(30100, [], .deep 110 113 (.sl t3) s.1 []), e31_0 g, (30102, [], .deep 141 0 (.mp t3 tI) s.2 [])]⟩ : St)) (fun s => VC31_k20 v14 X7 s.1 s.2) (fun s h => ?_) (fun rest17 => ?_)
                   ·obtain ⟨l301006, l301026⟩ := s
                    have h : VC31_k20 v14 X7 l301006 l301026 := h
                    unfold VC31_k20 at h
                    refine inlR_n (ob := True) (.tup []) (by kernel_rfl) trivial rfl ?_
                    refine lpr (st' := (⟨30, [e31_32, sI 1 v45, sI 2 (v4 - g.1), e31_39 g, e31_84 g, sI 14 v14, e31_169, sI 31 v45, e31_68 l301003 v45, sI 35 i, e31_160 w, e31_164, sI 114 v45, e31_116 l30100, sI 153 v45], [e31_146 l301006, e31_0 g, e31_137 l301026]⟩ : St)) (by kernel_rfl) ?_
                    refine awl_nil ?_
                    exact rest16 (l301006, l301026) h
                   ·refine aw_cond (b := (!(mget (l301025.getD ((v45).toNat) ([] : (List ((Int × (Int × Int)) × Int)))) (v14, ((0 : Int), v45))).isSome)) (by kernel_rfl) (fun hb => ?_) (fun hb => ?_)
                    ·have h := h.1 hb
                     refine aw_seq ?_
                     refine awd_begin [30102, 82001] (by kernel_rfl) ?_
                     refine awd_memo ((inIdx v45 l301005.length ∧ (roomN ((l301005.getD ((v45).toNat) ([] : LN)).length + [(v14, ((0 : Int), v45))].length) ∧ (inIdx v45 l301005.length ∧ VC31_k20 v14 X7 (l301005.set ((v45).toNat) ((l301005.getD ((v45).toNat) ([] : LN)) ++ [(v14, ((0 : Int), v45))])) (l301025.set ((v45).toNat) (mset (l301025.getD ((v45).toNat) ([] : (List ((Int × (Int × Int)) × Int)))) (v14, ((0 : Int), v45)) ((l301005.getD ((v45).toNat) ([] : LN)).length : Int))))))) e31_n0 (⟨54, [e31_32, sI 1 v45, sp 5 5, e31_167, e31_145 v14 v45, e31_120 l301005 v45, e31_45, sI 55 v45, e31_91 v4 g, e31_7 g, e31_27 g, sI 68 v14, e31_127, sI 85 v45, e31_26 l301003 v45, sI 89 i, e31_103 w, e31_119, sI 168 v45, e31_56 l30100, sI 207 v45], [e31_83 v14 v45, e31_62 l301005 v45, e31_0 g, e31_28 l301025 v45, e31_33 l301025 v45, e31_87 l301005 v45]⟩ : St) (fun h => ?_) (fun m5 => ?_)
                     ·refine awd_one (i := 16) (by kernel_rfl) ?_
                      refine dsq (ob := True) (st' := (⟨54, [e31_32, sI 1 v45, sp 5 5, e31_45, sI 55 v45, e31_91 v4 g, e31_7 g, e31_27 g, sI 68 v14, e31_127, sI 85 v45, e31_26 l301003 v45, sI 89 i, e31_103 w, e31_119, sI 168 v45, e31_56 l30100, sI 207 v45], [e31_83 v14 v45, e31_62 l301005 v45, e31_0 g, e31_28 l301025 v45, (82001, [], .dict t3 tI (mset (l301025.getD ((v45).toNat) ([] : (List ((Int × (Int × Int)) × Int)))) (v14, ((0 : Int), v45)) ((l301005.getD ((v45).toNat) ([] : LN)).length : Int))), e31_87 l301005 v45]⟩ : St)) rfl (by kernel_rfl) trivial ?_
                      refine dcl 30100 82010 true (ob := (l301005.getD ((v45).toNat) ([] : LN)) = l301005.getD ((v45).toNat) ([] : LN)) (C := [(30100, 82011)]) (st' := (⟨54, [e31_32, sI 1 v45, sp 5 5, e31_45, sI 55 v45, e31_91 v4 g, e31_7 g, e31_27 g, sI 68 v14, e31_127, sI 85 v45, e31_26 l301003 v45, sI 89 i, e31_103 w, e31_119, sI 168 v45, e31_56 l30100, sI 207 v45], [e31_83 v14 v45, e31_19 l301005, e31_0 g, e31_28 l301025 v45, (82001, [], .dict t3 tI (mset (l301025.getD ((v45).toNat) ([] : (List ((Int × (Int × Int)) × Int)))) (v14, ((0 : Int), v45)) ((l301005.getD ((v45).toNat) ([] : LN)).length : Int)))]⟩ : St)) (by kernel_rfl) (by kernel_rfl) rfl ?_
                      refine dcl 30102 82000 false (ob := True) (C := [(30102, 82001)]) (st' := (⟨54, [e31_32, sI 1 v45, sp 5 5, e31_45, sI 55 v45, e31_91 v4 g, e31_7 g, e31_27 g, sI 68 v14, e31_127, sI 85 v45, e31_26 l301003 v45, sI 89 i, e31_103 w, e31_119, sI 168 v45, e31_56 l30100, sI 207 v45], [e31_83 v14 v45, e31_19 l301005, e31_0 g, e31_13 l301025 v45 v14 l301005]⟩ : St)) (by kernel_rfl) (by kernel_rfl) trivial ?_
                      refine awd_done (by kernel_rfl) ?_
                      refine thenQ_n ?_
                      refine awd_begin [52, 30100, 82001] (by kernel_rfl) ?_
                      refine awd_memo ((roomN ((l301005.getD ((v45).toNat) ([] : LN)).length + [(v14, ((0 : Int), v45))].length) ∧ (inIdx v45 l301005.length ∧ VC31_k20 v14 X7 (l301005.set ((v45).toNat) ((l301005.getD ((v45).toNat) ([] : LN)) ++ [(v14, ((0 : Int), v45))])) (l301025.set ((v45).toNat) (mset (l301025.getD ((v45).toNat) ([] : (List ((Int × (Int × Int)) × Int)))) (v14, ((0 : Int), v45)) ((l301005.getD ((v45).toNat) ([] : LN)).length : Int)))))) e31_n1 (⟨54, [e31_81, sI 42 v45, e31_151, e31_143, e31_45, sI 55 v45, e31_91 v4 g, e31_7 g, e31_27 g, sI 68 v14, e31_127, sI 85 v45, e31_26 l301003 v45, sI 89 i, e31_103 w, e31_119, sI 168 v45, e31_56 l30100, sI 207 v45], [hA 51 113 t3 [(v14, ((0 : Int), v45))], e31_41 l301005 v45, e31_0 g, e31_13 l301025 v45 v14 l301005, e31_80 l301005 v45]⟩ : St) (fun h => ?_) (fun m6 => ?_)
                      ·refine awd_one (i := 14) (by kernel_rfl) ?_
                       obtain ⟨o1, h⟩ := h
                       refine dsq (ob := roomN ((l301005.getD ((v45).toNat) ([] : LN)).length + [(v14, ((0 : Int), v45))].length)) (st' := (⟨54, [e31_81, sI 42 v45, e31_161, e31_45, sI 55 v45, e31_91 v4 g, e31_7 g, e31_27 g, sI 68 v14, e31_127, sI 85 v45, e31_26 l301003 v45, sI 89 i, e31_103 w, e31_119, sI 168 v45, e31_56 l30100, sI 207 v45], [e31_129 l301005 v45 v14, e31_94 l301005 v45, e31_0 g, e31_13 l301025 v45 v14 l301005]⟩ : St)) rfl (by kernel_rfl) o1 ?_
                       obtain ⟨o1, h⟩ := h
                       refine drq (by kernel_rfl) [15] (ob := (inIdx v45 l301005.length ∧ True)) (done' := e31_n2) (st' := (⟨54, [e31_161, s1 53 (.el 30100 ((v45).toNat) 1), e31_45, sI 55 v45, e31_91 v4 g, e31_7 g, e31_27 g, sI 68 v14, e31_127, sI 85 v45, e31_26 l301003 v45, sI 89 i, e31_103 w, e31_119, sI 168 v45, e31_56 l30100, sI 207 v45], [e31_129 l301005 v45 v14, e31_94 l301005 v45, e31_0 g, e31_13 l301025 v45 v14 l301005]⟩ : St)) (by kernel_rfl) (⟨o1, trivial⟩) ?_
                       refine dai 53 82000 (ob := ((v45).toNat) = ((v45).toNat)) (C := []) (st' := (⟨54, [s1 53 (.ep 30100 82000 0), e31_161, e31_45, sI 55 v45, e31_91 v4 g, e31_7 g, e31_27 g, sI 68 v14, e31_127, sI 85 v45, e31_26 l301003 v45, sI 89 i, e31_103 w, e31_119, sI 168 v45, e31_56 l30100, sI 207 v45], [e31_129 l301005 v45 v14, e31_94 l301005 v45, e31_0 g, e31_13 l301025 v45 v14 l301005]⟩ : St)) (by kernel_rfl) (by kernel_rfl) rfl ?_
                       refine awd_one (i := 16) (by kernel_rfl) ?_
                       refine dsq (ob := True) (st' := (⟨54, [e31_45, sI 55 v45, e31_91 v4 g, e31_7 g, e31_27 g, sI 68 v14, e31_127, sI 85 v45, e31_26 l301003 v45, sI 89 i, e31_103 w, e31_119, sI 168 v45, e31_56 l30100, sI 207 v45], [e31_129 l301005 v45 v14, (30100, [], .deep 110 113 (.sl t3) l301005 [(82000, ((v45).toNat), [.own 52])]), e31_0 g, e31_13 l301025 v45 v14 l301005]⟩ : St)) rfl (by kernel_rfl) trivial ?_
                       refine dcl 30100 82000 false (ob := True) (C := [(30100, 52)]) (st' := (⟨54, [e31_45, sI 55 v45, e31_91 v4 g, e31_7 g, e31_27 g, sI 68 v14, e31_127, sI 85 v45, e31_26 l301003 v45, sI 89 i, e31_103 w, e31_119, sI 168 v45, e31_56 l30100, sI 207 v45], [(30100, [], .deep 110 113 (.sl t3) (l301005.set ((v45).toNat) ((l301005.getD ((v45).toNat) ([] : LN)) ++ [(v14, ((0 : Int), v45))])) []), e31_0 g, e31_13 l301025 v45 v14 l301005]⟩ : St)) (by kernel_rfl) (by kernel_rfl) trivial ?_
                       refine awd_done (by kernel_rfl) ?_
                       exact rest17 ((l301005.set ((v45).toNat) ((l301005.getD ((v45).toNat) ([] : LN)) ++ [(v14, ((0 : Int), v45))])), (l301025.set ((v45).toNat) (mset (l301025.getD ((v45).toNat) ([] : (List ((Int × (Int × Int)) × Int)))) (v14, ((0 : Int), v45)) ((l301005.getD ((v45).toNat) ([] : LN)).length : Int)))) h
                      ·obtain ⟨o1, h⟩ := h
                       refine drq (by kernel_rfl) e31_n7 (ob := (Ts 10 (inIdx v45 l301005.length ∧ Ts 1 True))) (done' := e31_n8) (st' := (⟨54, [e31_81, sI 42 v45, s1 48 (.el 30100 ((v45).toNat) 1), sA 50 [.pI v14, .pI (0 : Int), .pI v45], e31_45, sI 55 v45, e31_91 v4 g, e31_7 g, e31_27 g, sI 68 v14, e31_127, sI 85 v45, e31_26 l301003 v45, sI 89 i, e31_103 w, e31_119, sI 168 v45, e31_56 l30100, sI 207 v45], [e31_19 l301005, e31_0 g, e31_13 l301025 v45 v14 l301005]⟩ : St)) (by kernel_rfl) (tsI 10 ⟨o1, tsI 1 trivial⟩) ?_
                       refine dop 48 82000 [82001] (ob := True) (C := [(82001, 30100)]) (st' := (⟨54, [e31_166, e31_81, sI 42 v45, sA 50 [.pI v14, .pI (0 : Int), .pI v45], e31_45, sI 55 v45, e31_91 v4 g, e31_7 g, e31_27 g, sI 68 v14, e31_127, sI 85 v45, e31_26 l301003 v45, sI 89 i, e31_103 w, e31_119, sI 168 v45, e31_56 l30100, sI 207 v45], [e31_80 l301005 v45, e31_41 l301005 v45, e31_0 g, e31_13 l301025 v45 v14 l301005]⟩ : St)) (by kernel_rfl) (by kernel_rfl) trivial ?_
                       refine awd_two (i := 11) (j := 13) (by kernel_rfl) ?_ ?_
                       ·have h := h
                        refine dsq (ob := True) (st' := (⟨54, [e31_81, sI 42 v45, e31_151, sA 50 [.pI v14, .pI (0 : Int), .pI v45], e31_45, sI 55 v45, e31_91 v4 g, e31_7 g, e31_27 g, sI 68 v14, e31_127, sI 85 v45, e31_26 l301003 v45, sI 89 i, e31_103 w, e31_119, sI 168 v45, e31_56 l30100, sI 207 v45], [e31_41 l301005 v45, e31_0 g, e31_13 l301025 v45 v14 l301005, e31_80 l301005 v45]⟩ : St)) rfl (by kernel_rfl) trivial ?_
                        refine awd_one (i := 13) (by kernel_rfl) ?_
                        refine dsq (ob := True) (st' := (⟨54, [e31_81, sI 42 v45, e31_151, e31_143, e31_45, sI 55 v45, e31_91 v4 g, e31_7 g, e31_27 g, sI 68 v14, e31_127, sI 85 v45, e31_26 l301003 v45, sI 89 i, e31_103 w, e31_119, sI 168 v45, e31_56 l30100, sI 207 v45], [hA 51 113 t3 [(v14, ((0 : Int), v45))], e31_41 l301005 v45, e31_0 g, e31_13 l301025 v45 v14 l301005, e31_80 l301005 v45]⟩ : St)) rfl (by kernel_rfl) trivial ?_
                        exact m6 h
                       ·have h := h
                        refine dsq (ob := True) (st' := (⟨54, [e31_81, sI 42 v45, e31_166, e31_143, e31_45, sI 55 v45, e31_91 v4 g, e31_7 g, e31_27 g, sI 68 v14, e31_127, sI 85 v45, e31_26 l301003 v45, sI 89 i, e31_103 w, e31_119, sI 168 v45, e31_56 l30100, sI 207 v45], [hA 51 113 t3 [(v14, ((0 : Int), v45))], e31_41 l301005 v45, e31_0 g, e31_13 l301025 v45 v14 l301005, e31_80 l301005 v45]⟩ : St)) rfl (by kernel_rfl) trivial ?_
                        refine awd_one (i := 11) (by kernel_rfl) ?_
                        refine dsq (ob := True) (st' := (⟨54, [e31_81, sI 42 v45, e31_151, e31_143, e31_45, sI 55 v45, e31_91 v4 g, e31_7 g, e31_27 g, sI 68 v14, e31_127, sI 85 v45, e31_26 l301003 v45, sI 89 i, e31_103 w, e31_119, sI 168 v45, e31_56 l30100, sI 207 v45], [hA 51 113 t3 [(v14, ((0 : Int), v45))], e31_41 l301005 v45, e31_0 g, e31_13 l301025 v45 v14 l301005, e31_80 l301005 v45]⟩ : St)) rfl (by kernel_rfl) trivial ?_
                        refine awd_perm e31_n1 (by kernel_rfl) (by kernel_rfl) ?_
                        exact m6 h
                     ·obtain ⟨o1, o2, h⟩ := h
                      refine drq (by kernel_rfl) e31_n5 (ob := (Ts 5 (inIdx v45 l301025.length ∧ Ts 6 (inIdx v45 l301005.length ∧ True)))) (done' := e31_n6) (st' := (⟨54, [e31_32, sI 1 v45, sp 5 5, s1 27 (.el 30102 ((v45).toNat) 1), e31_145 v14 v45, e31_171 v45, e31_45, sI 55 v45, e31_91 v4 g, e31_7 g, e31_27 g, sI 68 v14, e31_127, sI 85 v45, e31_26 l301003 v45, sI 89 i, e31_103 w, e31_119, sI 168 v45, e31_56 l30100, sI 207 v45], [e31_83 v14 v45, e31_19 l301005, e31_0 g, e31_16 l301025]⟩ : St)) (by kernel_rfl) (tsI 5 (⟨o1, tsI 6 ⟨o2, trivial⟩⟩)) ?_
                      refine dop 27 82000 [82001] (ob := True) (C := [(82001, 30102)]) (st' := (⟨54, [e31_147, e31_32, sI 1 v45, sp 5 5, e31_145 v14 v45, e31_171 v45, e31_45, sI 55 v45, e31_91 v4 g, e31_7 g, e31_27 g, sI 68 v14, e31_127, sI 85 v45, e31_26 l301003 v45, sI 89 i, e31_103 w, e31_119, sI 168 v45, e31_56 l30100, sI 207 v45], [e31_33 l301025 v45, e31_83 v14 v45, e31_19 l301005, e31_0 g, e31_28 l301025 v45]⟩ : St)) (by kernel_rfl) (by kernel_rfl) trivial ?_
                      refine dop 35 82010 [82011] (ob := True) (C := [(82011, 30100)]) (st' := (⟨54, [s1 35 (.ep 30100 82010 0), e31_147, e31_32, sI 1 v45, sp 5 5, e31_145 v14 v45, e31_45, sI 55 v45, e31_91 v4 g, e31_7 g, e31_27 g, sI 68 v14, e31_127, sI 85 v45, e31_26 l301003 v45, sI 89 i, e31_103 w, e31_119, sI 168 v45, e31_56 l30100, sI 207 v45], [e31_87 l301005 v45, e31_33 l301025 v45, e31_83 v14 v45, e31_62 l301005 v45, e31_0 g, e31_28 l301025 v45]⟩ : St)) (by kernel_rfl) (by kernel_rfl) trivial ?_
                      refine drq (by kernel_rfl) [14, 15] (ob := (Ts 2 True)) (done' := e31_n3) (st' := (⟨54, [e31_32, sI 1 v45, sp 5 5, e31_147, e31_145 v14 v45, e31_120 l301005 v45, e31_45, sI 55 v45, e31_91 v4 g, e31_7 g, e31_27 g, sI 68 v14, e31_127, sI 85 v45, e31_26 l301003 v45, sI 89 i, e31_103 w, e31_119, sI 168 v45, e31_56 l30100, sI 207 v45], [e31_83 v14 v45, e31_62 l301005 v45, e31_0 g, e31_28 l301025 v45, e31_33 l301025 v45, e31_87 l301005 v45]⟩ : St)) (by kernel_rfl) (tsI 2 trivial) ?_
                      refine awd_one (i := 6) (by kernel_rfl) ?_
                      refine dsq (ob := True) (st' := (⟨54, [e31_32, sI 1 v45, sp 5 5, e31_167, e31_145 v14 v45, e31_120 l301005 v45, e31_45, sI 55 v45, e31_91 v4 g, e31_7 g, e31_27 g, sI 68 v14, e31_127, sI 85 v45, e31_26 l301003 v45, sI 89 i, e31_103 w, e31_119, sI 168 v45, e31_56 l30100, sI 207 v45], [e31_83 v14 v45, e31_62 l301005 v45, e31_0 g, e31_28 l301025 v45, e31_33 l301025 v45, e31_87 l301005 v45]⟩ : St)) rfl (by kernel_rfl) trivial ?_
                      refine awd_perm e31_n0 (by kernel_rfl) (by kernel_rfl) ?_
                      exact m5 h
                    ·have h := h.2 hb
                     refine cpr (st' := (⟨54, [e31_45, sI 55 v45, e31_91 v4 g, e31_7 g, e31_27 g, sI 68 v14, e31_127, sI 85 v45, e31_26 l301003 v45, sI 89 i, e31_103 w, e31_119, sI 168 v45, e31_56 l30100, sI 207 v45], [e31_19 l301005, e31_0 g, e31_16 l301025]⟩ : St)) (by kernel_rfl) ?_
                     refine aw_skip ?_
                     exact rest17 (l301005, l301025) h
                  ·have h := h.2 hb
                   refine cpr (st' := (⟨30, [e31_32, sI 1 v45, sI 2 (v4 - g.1), e31_39 g, e31_84 g, sI 14 v14, e31_169, sI 31 v45, e31_68 l301003 v45, sI 35 i, e31_160 w, e31_164, sI 114 v45, e31_116 l30100, sI 153 v45], [e31_19 l301005, e31_0 g, e31_16 l301025]⟩ : St)) (by kernel_rfl) ?_
                   refine aw_skip ?_
                   exact rest16 (l301005, l301025) h
                ·have h := h.2 hb
                 refine cpr (st' := (⟨30, [e31_169, sI 31 v45, e31_68 l301003 v45, sI 35 i, e31_160 w, e31_164, sI 114 v45, e31_116 l30100, sI 153 v45], [e31_19 l301005, e31_0 g, e31_16 l301025]⟩ : St)) (by kernel_rfl) ?_
                 refine aw_exit ?_
                 refine thenQ_x ?_
                 refine thenQ_x ?_
                 refine blockQ_hit ?_
                 exact rest15 (l301005, l301025) h
              ·have h := h.2 hb
               refine cpr (st' := (⟨78, [e31_32, sI 1 v45, e31_31 l301003 v45, sI 5 i, e31_89 w, e31_100, sI 84 v45, e31_44 l30100, sI 123 v45], [e31_36 l301004, e31_0 g, e31_11 l301024]⟩ : St)) (by kernel_rfl) ?_
               refine aw_skip ?_
               exact rest14 (l301004, l301024) h
          ·refine srn 3 ⟨27, [e31_32, sp 3 3, e31_165, sI 28 v45, e31_105 l301003 v45, sI 32 i, sp 33 30700, s1 106 (.pS w), sp 110 30101, sI 111 v45, e31_153 l30100, sI 150 v45], [e31_78 l301004 v45 i, e31_36 l301004, e31_0 g, e31_11 l301024, e31_20 l301004 v45 i]⟩ (by kernel_rfl) rfl ?_
           refine aw_seq ?_
           refine awd_begin [] (by kernel_rfl) ?_
           obtain ⟨o1, h⟩ := h
           refine drq (by kernel_rfl) e31_n10 (ob := (Ts 7 (inIdx (((l301004.getD ((v45).toNat) ([] : LN)).getD ((i).toNat) z3).1) g.2.2.2.length ∧ Ts 3 True))) (done' := e31_n9) (st' := (⟨27, [sp 3 3, s1 6 (.pS ((g.2.2.2.getD (((l301004.getD ((v45).toNat) ([] : LN)).getD ((i).toNat) z3).1).toNat ((0 : Int), ([] : LI))).2)), e31_165, sI 28 v45, e31_105 l301003 v45, sI 32 i, sp 33 30700, s1 106 (.pS w), sp 110 30101, sI 111 v45, e31_153 l30100, sI 150 v45], [e31_78 l301004 v45 i, e31_36 l301004, e31_0 g, e31_11 l301024, e31_20 l301004 v45 i]⟩ : St)) (by kernel_rfl) (tsI 7 ⟨o1, tsI 3 trivial⟩) ?_
           refine awd_done (by kernel_rfl) ?_
           refine thenQ_n ?_
           refine aw_seq ?_
           refine srn 5 ⟨27, [sp 3 3, s1 6 (.pS ((g.2.2.2.getD (((l301004.getD ((v45).toNat) ([] : LN)).getD ((i).toNat) z3).1).toNat ((0 : Int), ([] : LI))).2)), sB 21 (decide (((l301004.getD ((v45).toNat) ([] : LN)).getD ((i).toNat) z3).2.1 = (((g.2.2.2.getD (((l301004.getD ((v45).toNat) ([] : LN)).getD ((i).toNat) z3).1).toNat ((0 : Int), ([] : LI))).2).length : Int))), e31_165, sI 28 v45, e31_105 l301003 v45, sI 32 i, sp 33 30700, s1 106 (.pS w), sp 110 30101, sI 111 v45, e31_153 l30100, sI 150 v45], [e31_78 l301004 v45 i, e31_36 l301004, e31_0 g, e31_11 l301024, e31_20 l301004 v45 i]⟩ (by kernel_rfl) rfl ?_
           refine aw_cond (b := (decide (((l301004.getD ((v45).toNat) ([] : LN)).getD ((i).toNat) z3).2.1 = (((g.2.2.2.getD (((l301004.getD ((v45).toNat) ([] : LN)).getD ((i).toNat) z3).1).toNat ((0 : Int), ([] : LI))).2).length : Int)))) (by kernel_rfl) (fun hb => ?_) (fun hb => ?_)
           ·have h := h.1 hb
            refine srn 2 ⟨27, [sI 4 (0 : Int), sB 5 false, e31_165, sI 28 v45, e31_105 l301003 v45, sI 32 i, sp 33 30700, s1 106 (.pS w), sp 110 30101, sI 111 v45, e31_153 l30100, sI 150 v45], [e31_36 l301004, e31_0 g, e31_11 l301024, e31_20 l301004 v45 i]⟩ (by kernel_rfl) rfl ?_
            refine aw_ret ?_
            refine thenQ_r ?_
            exact rest18 ((0 : Int), false) h
           ·have h := h.2 hb
            refine aw_skip ?_
            refine thenQ_n ?_
            refine sr ?_
            obtain ⟨o1, h⟩ := h
            refine rq 7 (ob := (Ts 3 (inIdx (((l301004.getD ((v45).toNat) ([] : LN)).getD ((i).toNat) z3).2.1) ((g.2.2.2.getD (((l301004.getD ((v45).toNat) ([] : LN)).getD ((i).toNat) z3).1).toNat ((0 : Int), ([] : LI))).2).length ∧ Ts 3 True))) (st' := (⟨27, [sI 4 (((g.2.2.2.getD (((l301004.getD ((v45).toNat) ([] : LN)).getD ((i).toNat) z3).1).toNat ((0 : Int), ([] : LI))).2).getD (((l301004.getD ((v45).toNat) ([] : LN)).getD ((i).toNat) z3).2.1).toNat (0 : Int)), sB 5 true, e31_165, sI 28 v45, e31_105 l301003 v45, sI 32 i, sp 33 30700, s1 106 (.pS w), sp 110 30101, sI 111 v45, e31_153 l30100, sI 150 v45], [e31_36 l301004, e31_0 g, e31_11 l301024, e31_20 l301004 v45 i]⟩ : St)) (by kernel_rfl) (tsI 3 ⟨o1, tsI 3 trivial⟩) ?_
            refine nn ?_
            refine aw_ret ?_
            exact rest18 ((((g.2.2.2.getD (((l301004.getD ((v45).toNat) ([] : LN)).getD ((i).toNat) z3).1).toNat ((0 : Int), ([] : LI))).2).getD (((l301004.getD ((v45).toNat) ([] : LN)).getD ((i).toNat) z3).2.1).toNat (0 : Int)), true) h
         ·have h := h.2 hb
          refine cpr (st' := (⟨78, [e31_32, sI 1 v45, e31_31 l301003 v45, e31_89 w, e31_100, sI 84 v45, e31_44 l30100, sI 123 v45], [e31_36 l301004, e31_0 g, e31_11 l301024]⟩ : St)) (by kernel_rfl) ?_
          refine aw_exit ?_
          refine thenQ_x ?_
          refine thenQ_x ?_
          refine blockQ_hit ?_
          exact rest8 (l301004, l301024) h
       ·have h := h.2 hb
        refine cpr (st' := (⟨78, [e31_89 w, e31_100, sI 84 v45, e31_44 l30100, sI 123 v45], [e31_93 l301003, e31_0 g, e31_51 l301023]⟩ : St)) (by kernel_rfl) ?_
        refine aw_exit ?_
        refine thenQ_x ?_
        refine thenQ_x ?_
        refine blockQ_hit ?_
        exact rest7 (l301003, l301023) h
     ·have h := h.2 hb
      refine cpr (st' := (⟨97, [e31_131], [e31_86 l301002, e31_0 g, e31_85 l301022]⟩ : St)) (by kernel_rfl) ?_
      refine aw_exit ?_
      refine thenQ_x ?_
      refine thenQ_x ?_
      refine blockQ_hit ?_
      exact rest2 (l301002, l301022) h
   ·refine aw_block ?_
    refine aw_loop (σ := Int × (List LN) × (List (List ((Int × (Int × Int)) × Int)))) (fun s => (⟨30, [e31_32, e31_114, sI 2 g.2.2.1, e31_39 g, e31_84 g, sI 14 s.1, s1 31 (.pS w), e31_168], [(30100, [], .deep 110 113 (.sl t3) s.2.1 []), e31_0 g, (30102, [], .deep 141 0 (.mp t3 tI) s.2.2 [])]⟩ : St)) (fun s X => VC31_l8 g w K s.1 s.2.1 s.2.2 X) (s0 := ((0 : Int), (List.replicate (((w.length : Int) + (1 : Int))).toNat ([] : LN)), l6105)) (fun s X8 h => ?_) h
    obtain ⟨v14, l30100, l30102⟩ := s
    have h : VC31_l8 g w K v14 l30100 l30102 X8 := h
    unfold VC31_l8 at h
    refine srn 1 ⟨30, [e31_32, e31_114, sI 2 g.2.2.1, e31_39 g, e31_84 g, sI 14 v14, sB 15 (decide (v14 < (g.2.2.2.length : Int))), s1 31 (.pS w), e31_168], [e31_49 l30100, e31_0 g, e31_60 l30102]⟩ (by kernel_rfl) rfl ?_
    refine aw_seq ?_
    refine aw_cond (b := (decide (v14 < (g.2.2.2.length : Int)))) (by kernel_rfl) (fun hb => ?_) (fun hb => ?_)
    ·have h := h.1 hb
     refine aw_skip ?_
     refine thenQ_n ?_
     refine aw_seq ?_
     refine aw_block ?_
     refine sr ?_
     obtain ⟨o1, h⟩ := h
     refine rq 6 (ob := (Ts 1 (inIdx v14 g.2.2.2.length ∧ Ts 4 True))) (st' := (⟨30, [e31_32, e31_114, sI 2 g.2.2.1, sI 6 v14, sp 7 7, e31_39 g, e31_84 g, sI 14 v14, s1 31 (.pS w), e31_168], [e31_141 g v14, e31_49 l30100, e31_0 g, e31_60 l30102]⟩ : St)) (by kernel_rfl) (tsI 1 ⟨o1, tsI 4 trivial⟩) ?_
     refine nsr ?_
     refine rqT 4 ⟨30, [e31_32, e31_114, sI 2 g.2.2.1, sI 6 v14, e31_39 g, e31_84 g, sI 14 v14, sB 22 (decide ((g.2.2.2.getD (v14).toNat ((0 : Int), ([] : LI))).1 = g.2.2.1)), s1 31 (.pS w), e31_168], [e31_49 l30100, e31_0 g, e31_60 l30102]⟩ (by kernel_rfl) ?_
     refine nn ?_
     refine withJoin (σ := (List LN) × (List (List ((Int × (Int × Int)) × Int)))) (fun s => (⟨30, [e31_32, e31_114, sI 2 g.2.2.1, e31_39 g, e31_84 g, sI 14 v14, s1 31 (.pS w), e31_168], [(30100, [], .deep 110 113 (.sl t3) s.1 []), e31_0 g, (30102, [], .deep 141 0 (.mp t3 tI) s.2 [])]⟩ : St)) (fun s => VC31_k21 v14 X8 s.1 s.2) (fun s h => ?_) (fun rest20 => ?_)
     ·obtain ⟨l301002, l301022⟩ := s
      have h : VC31_k21 v14 X8 l301002 l301022 := h
      unfold VC31_k21 at h
      refine blockQ_n ?_
      refine thenQ_n ?_
      refine aw_region ?_
      obtain ⟨o1, h⟩ := h
      refine rq 2 (ob := (InR (v14 + (1 : Int)) ∧ Ts 1 True)) (st' := (⟨30, [e31_32, e31_114, sI 2 g.2.2.1, e31_39 g, e31_84 g, sI 14 (v14 + (1 : Int)), s1 31 (.pS w), e31_168], [e31_86 l301002, e31_0 g, e31_85 l301022]⟩ : St)) (by kernel_rfl) (⟨o1, tsI 1 trivial⟩) ?_
      refine awl_nil ?_
      exact thenQ_n ⟨((v14 + (1 : Int)), l301002, l301022), rfl, h⟩
     ·refine aw_cond (b := (decide ((g.2.2.2.getD (v14).toNat ((0 : Int), ([] : LI))).1 = g.2.2.1))) (by kernel_rfl) (fun hb => ?_) (fun hb => ?_)
      ·have h := h.1 hb
       refine aw_region ?_
       refine rqT 5 ⟨30, [e31_32, e31_114, sI 2 g.2.2.1, e31_39 g, e31_84 g, sI 14 v14, sp 23 30101, sI 24 (0 : Int), sA 27 [.pI v14, .pI (0 : Int), .pI (0 : Int)], s1 31 (.pS w), e31_168], [e31_49 l30100, e31_0 g, e31_60 l30102]⟩ (by kernel_rfl) ?_
       refine awl_inlr [] [30100, 30101, 30102] [.c (.ptr 30101 0), .c (.pI (0 : Int)), .agg [.pI v14, .pI (0 : Int), .pI (0 : Int)]] [] rfl rfl (by kernel_rfl) rfl (by kernel_rfl) Try.call92 (by kernel_rfl) (by kernel_rfl) Try.func92 rfl rfl (by kernel_rfl) ?_
       refine aw_conv [] (st' := (⟨54, [e31_32, e31_114, sA 2 [.pI v14, .pI (0 : Int), .pI (0 : Int)], e31_45, e31_97, e31_111 g, e31_7 g, e31_27 g, sI 68 v14, sp 77 30101, sI 78 (0 : Int), sA 81 [.pI v14, .pI (0 : Int), .pI (0 : Int)], e31_112 w, e31_128], [e31_49 l30100, e31_0 g, e31_60 l30102]⟩ : St)) (by kernel_rfl) ?_
       refine srn 1 ⟨54, [e31_32, e31_114, sp 5 5, e31_45, e31_97, e31_111 g, e31_7 g, e31_27 g, sI 68 v14, e31_112 w, e31_128], [e31_76 v14, e31_49 l30100, e31_0 g, e31_60 l30102]⟩ (by kernel_rfl) rfl ?_
       refine aw_seq ?_
       refine awd_begin [] (by kernel_rfl) ?_
       obtain ⟨o1, h⟩ := h
       refine drq (by kernel_rfl) e31_n12 (ob := (Ts 5 (inIdx (0 : Int) l30102.length ∧ Ts 1 True))) (done' := e31_n13) (st' := (⟨54, [e31_32, e31_114, sp 5 5, s1 14 (.el 30102 (((0 : Int)).toNat) 1), sA 16 [.pI v14, .pI (0 : Int), .pI (0 : Int)], e31_45, e31_97, e31_111 g, e31_7 g, e31_27 g, sI 68 v14, e31_112 w, e31_128], [e31_76 v14, e31_49 l30100, e31_0 g, e31_60 l30102]⟩ : St)) (by kernel_rfl) (tsI 5 ⟨o1, tsI 1 trivial⟩) ?_
       refine dop 14 82000 [82001] (ob := True) (C := [(82001, 30102)]) (st' := (⟨54, [s1 14 (.ep 30102 82000 0), e31_32, e31_114, sp 5 5, sA 16 [.pI v14, .pI (0 : Int), .pI (0 : Int)], e31_45, e31_97, e31_111 g, e31_7 g, e31_27 g, sI 68 v14, e31_112 w, e31_128], [e31_69 l30102, e31_76 v14, e31_49 l30100, e31_0 g, e31_52 l30102]⟩ : St)) (by kernel_rfl) (by kernel_rfl) trivial ?_
       refine drq (by kernel_rfl) e31_n11 (ob := (Ts 7 True)) (done' := e31_n4) (st' := (⟨54, [e31_32, e31_114, sp 5 5, sB 7 ((mget (l30102.getD (((0 : Int)).toNat) ([] : (List ((Int × (Int × Int)) × Int)))) (v14, ((0 : Int), (0 : Int)))).isSome), e31_45, e31_97, e31_111 g, e31_7 g, e31_27 g, sI 68 v14, e31_112 w, e31_128], [e31_76 v14, e31_49 l30100, e31_0 g, e31_52 l30102, e31_69 l30102]⟩ : St)) (by kernel_rfl) (tsI 7 trivial) ?_
       refine dcl 30102 82000 true (ob := (l30102.getD (((0 : Int)).toNat) ([] : (List ((Int × (Int × Int)) × Int)))) = l30102.getD (((0 : Int)).toNat) ([] : (List ((Int × (Int × Int)) × Int)))) (C := [(30102, 82001)]) (st' := (⟨54, [e31_32, e31_114, sp 5 5, sB 7 ((mget (l30102.getD (((0 : Int)).toNat) ([] : (List ((Int × (Int × Int)) × Int)))) (v14, ((0 : Int), (0 : Int)))).isSome), e31_45, e31_97, e31_111 g, e31_7 g, e31_27 g, sI 68 v14, e31_112 w, e31_128], [e31_76 v14, e31_49 l30100, e31_0 g, e31_60 l30102]⟩ : St)) (by kernel_rfl) (by kernel_rfl) rfl ?_
       refine awd_done (by kernel_rfl) ?_
       refine thenQ_n ?_
       refine srn 2 ⟨54, [e31_32, e31_114, sp 5 5, sB 21 (!(mget (l30102.getD (((0 : Int)).toNat) ([] : (List ((Int × (Int × Int)) × Int)))) (v14, ((0 : Int), (0 : Int)))).isSome), e31_45, e31_97, e31_111 g, e31_7 g, e31_27 g, sI 68 v14, e31_112 w, e31_128], [e31_76 v14, e31_49 l30100, e31_0 g, e31_60 l30102]⟩ (by kernel_rfl) rfl ?_
       refine withJoin (σ := (List LN) × (List (List ((Int × (Int × Int)) × Int)))) (fun s => (⟨54, [e31_45, e31_97, e31_111 g, e31_7 g, e31_27 g, sI 68 v14, e31_112 w, e31_128], [(30100, [], .deep 110 113 (.sl t3) s.1 []), e31_0 g, (30102, [], .deep 141 0 (.mp t3 tI) s.2 [])]⟩ : St)) (fun s => VC31_k22 v14 X8 s.1 s.2) (fun s h => ?_) (fun rest21 => ?_)
       ·obtain ⟨l301002, l301022⟩ := s
        have h : VC31_k22 v14 X8 l301002 l301022 := h
        unfold VC31_k22 at h
        refine inlR_n (ob := True) (.tup []) (by kernel_rfl) trivial rfl ?_
        refine lpr (st' := (⟨30, [e31_32, e31_114, sI 2 g.2.2.1, e31_39 g, e31_84 g, sI 14 v14, s1 31 (.pS w), e31_168], [e31_86 l301002, e31_0 g, e31_85 l301022]⟩ : St)) (by kernel_rfl) ?_
        refine awl_nil ?_
        exact rest20 (l301002, l301022) h
       ·refine aw_cond (b := (!(mget (l30102.getD (((0 : Int)).toNat) ([] : (List ((Int × (Int × Int)) × Int)))) (v14, ((0 : Int), (0 : Int)))).isSome)) (by kernel_rfl) (fun hb => ?_) (fun hb => ?_)
        ·have h := h.1 hb
         refine aw_seq ?_
         refine awd_begin [30102, 82001] (by kernel_rfl) ?_
         refine awd_memo ((inIdx (0 : Int) l30100.length ∧ (roomN ((l30100.getD (((0 : Int)).toNat) ([] : LN)).length + [(v14, ((0 : Int), (0 : Int)))].length) ∧ (inIdx (0 : Int) l30100.length ∧ VC31_k22 v14 X8 (l30100.set (((0 : Int)).toNat) ((l30100.getD (((0 : Int)).toNat) ([] : LN)) ++ [(v14, ((0 : Int), (0 : Int)))])) (l30102.set (((0 : Int)).toNat) (mset (l30102.getD (((0 : Int)).toNat) ([] : (List ((Int × (Int × Int)) × Int)))) (v14, ((0 : Int), (0 : Int))) ((l30100.getD (((0 : Int)).toNat) ([] : LN)).length : Int))))))) e31_n0 (⟨54, [e31_32, e31_114, sp 5 5, e31_167, e31_138 v14, e31_155 l30100, e31_45, e31_97, e31_111 g, e31_7 g, e31_27 g, sI 68 v14, e31_112 w, e31_128], [e31_76 v14, e31_99 l30100, e31_0 g, e31_52 l30102, e31_69 l30102, e31_135 l30100]⟩ : St) (fun h => ?_) (fun m7 => ?_)
         ·refine awd_one (i := 16) (by kernel_rfl) ?_
          refine dsq (ob := True) (st' := (⟨54, [e31_32, e31_114, sp 5 5, e31_45, e31_97, e31_111 g, e31_7 g, e31_27 g, sI 68 v14, e31_112 w, e31_128], [e31_76 v14, e31_99 l30100, e31_0 g, e31_52 l30102, e31_106 l30102 v14 l30100, e31_135 l30100]⟩ : St)) rfl (by kernel_rfl) trivial ?_
          refine dcl 30100 82010 true (ob := (l30100.getD (((0 : Int)).toNat) ([] : LN)) = l30100.getD (((0 : Int)).toNat) ([] : LN)) (C := [(30100, 82011)]) (st' := (⟨54, [e31_32, e31_114, sp 5 5, e31_45, e31_97, e31_111 g, e31_7 g, e31_27 g, sI 68 v14, e31_112 w, e31_128], [e31_76 v14, e31_49 l30100, e31_0 g, e31_52 l30102, e31_106 l30102 v14 l30100]⟩ : St)) (by kernel_rfl) (by kernel_rfl) rfl ?_
          refine dcl 30102 82000 false (ob := True) (C := [(30102, 82001)]) (st' := (⟨54, [e31_32, e31_114, sp 5 5, e31_45, e31_97, e31_111 g, e31_7 g, e31_27 g, sI 68 v14, e31_112 w, e31_128], [e31_76 v14, e31_49 l30100, e31_0 g, e31_10 l30102 v14 l30100]⟩ : St)) (by kernel_rfl) (by kernel_rfl) trivial ?_
          refine awd_done (by kernel_rfl) ?_
          refine thenQ_n ?_
          refine awd_begin [52, 30100, 82001] (by kernel_rfl) ?_
          refine awd_memo ((roomN ((l30100.getD (((0 : Int)).toNat) ([] : LN)).length + [(v14, ((0 : Int), (0 : Int)))].length) ∧ (inIdx (0 : Int) l30100.length ∧ VC31_k22 v14 X8 (l30100.set (((0 : Int)).toNat) ((l30100.getD (((0 : Int)).toNat) ([] : LN)) ++ [(v14, ((0 : Int), (0 : Int)))])) (l30102.set (((0 : Int)).toNat) (mset (l30102.getD (((0 : Int)).toNat) ([] : (List ((Int × (Int × Int)) × Int)))) (v14, ((0 : Int), (0 : Int))) ((l30100.getD (((0 : Int)).toNat) ([] : LN)).length : Int)))))) e31_n1 (⟨54, [e31_81, e31_173, e31_151, e31_143, e31_45, e31_97, e31_111 g, e31_7 g, e31_27 g, sI 68 v14, e31_112 w, e31_128], [e31_162 v14, e31_88 l30100, e31_0 g, e31_10 l30102 v14 l30100, e31_121 l30100]⟩ : St) (fun h => ?_) (fun m8 => ?_)
          ·refine awd_one (i := 14) (by kernel_rfl) ?_
           obtain ⟨o1, h⟩ := h
           refine dsq (ob := roomN ((l30100.getD (((0 : Int)).toNat) ([] : LN)).length + [(v14, ((0 : Int), (0 : Int)))].length)) (st' := (⟨54, [e31_81, e31_173, e31_161, e31_45, e31_97, e31_111 g, e31_7 g, e31_27 g, sI 68 v14, e31_112 w, e31_128], [e31_115 l30100 v14, e31_142 l30100, e31_0 g, e31_10 l30102 v14 l30100]⟩ : St)) rfl (by kernel_rfl) o1 ?_
           obtain ⟨o1, h⟩ := h
           refine drq (by kernel_rfl) [15] (ob := (inIdx (0 : Int) l30100.length ∧ True)) (done' := e31_n2) (st' := (⟨54, [e31_161, s1 53 (.el 30100 (((0 : Int)).toNat) 1), e31_45, e31_97, e31_111 g, e31_7 g, e31_27 g, sI 68 v14, e31_112 w, e31_128], [e31_115 l30100 v14, e31_142 l30100, e31_0 g, e31_10 l30102 v14 l30100]⟩ : St)) (by kernel_rfl) (⟨o1, trivial⟩) ?_
           refine dai 53 82000 (ob := (((0 : Int)).toNat) = (((0 : Int)).toNat)) (C := []) (st' := (⟨54, [s1 53 (.ep 30100 82000 0), e31_161, e31_45, e31_97, e31_111 g, e31_7 g, e31_27 g, sI 68 v14, e31_112 w, e31_128], [e31_115 l30100 v14, e31_142 l30100, e31_0 g, e31_10 l30102 v14 l30100]⟩ : St)) (by kernel_rfl) (by kernel_rfl) rfl ?_
           refine awd_one (i := 16) (by kernel_rfl) ?_
           refine dsq (ob := True) (st' := (⟨54, [e31_45, e31_97, e31_111 g, e31_7 g, e31_27 g, sI 68 v14, e31_112 w, e31_128], [e31_115 l30100 v14, (30100, [], .deep 110 113 (.sl t3) l30100 [(82000, (((0 : Int)).toNat), [.own 52])]), e31_0 g, e31_10 l30102 v14 l30100]⟩ : St)) rfl (by kernel_rfl) trivial ?_
           refine dcl 30100 82000 false (ob := True) (C := [(30100, 52)]) (st' := (⟨54, [e31_45, e31_97, e31_111 g, e31_7 g, e31_27 g, sI 68 v14, e31_112 w, e31_128], [(30100, [], .deep 110 113 (.sl t3) (l30100.set (((0 : Int)).toNat) ((l30100.getD (((0 : Int)).toNat) ([] : LN)) ++ [(v14, ((0 : Int), (0 : Int)))])) []), e31_0 g, e31_10 l30102 v14 l30100]⟩ : St)) (by kernel_rfl) (by kernel_rfl) trivial ?_
           refine awd_done (by kernel_rfl) ?_
           exact rest21 ((l30100.set (((0 : Int)).toNat) ((l30100.getD (((0 : Int)).toNat) ([] : LN)) ++ [(v14, ((0 : Int), (0 : Int)))])), (l30102.set (((0 : Int)).toNat) (mset (l30102.getD (((0 : Int)).toNat) ([] : (List ((Int × (Int × Int)) × Int)))) (v14, ((0 : Int), (0 : Int))) ((l30100.getD (((0 : Int)).toNat) ([] : LN)).length : Int)))) h
          ·obtain ⟨o1, h⟩ := h
           refine drq (by kernel_rfl) e31_n7 (ob := (Ts 10 (inIdx (0 : Int) l30100.length ∧ Ts 1 True))) (done' := e31_n8) (st' := (⟨54, [e31_81, e31_173, s1 48 (.el 30100 (((0 : Int)).toNat) 1), e31_170 v14, e31_45, e31_97, e31_111 g, e31_7 g, e31_27 g, sI 68 v14, e31_112 w, e31_128], [e31_49 l30100, e31_0 g, e31_10 l30102 v14 l30100]⟩ : St)) (by kernel_rfl) (tsI 10 ⟨o1, tsI 1 trivial⟩) ?_
           refine dop 48 82000 [82001] (ob := True) (C := [(82001, 30100)]) (st' := (⟨54, [e31_166, e31_81, e31_173, e31_170 v14, e31_45, e31_97, e31_111 g, e31_7 g, e31_27 g, sI 68 v14, e31_112 w, e31_128], [e31_121 l30100, e31_88 l30100, e31_0 g, e31_10 l30102 v14 l30100]⟩ : St)) (by kernel_rfl) (by kernel_rfl) trivial ?_
           refine awd_two (i := 11) (j := 13) (by kernel_rfl) ?_ ?_
           ·have h := h
            refine dsq (ob := True) (st' := (⟨54, [e31_81, e31_173, e31_151, e31_170 v14, e31_45, e31_97, e31_111 g, e31_7 g, e31_27 g, sI 68 v14, e31_112 w, e31_128], [e31_88 l30100, e31_0 g, e31_10 l30102 v14 l30100, e31_121 l30100]⟩ : St)) rfl (by kernel_rfl) trivial ?_
            refine awd_one (i := 13) (by kernel_rfl) ?_
            refine dsq (ob := True) (st' := (⟨54, [e31_81, e31_173, e31_151, e31_143, e31_45, e31_97, e31_111 g, e31_7 g, e31_27 g, sI 68 v14, e31_112 w, e31_128], [e31_162 v14, e31_88 l30100, e31_0 g, e31_10 l30102 v14 l30100, e31_121 l30100]⟩ : St)) rfl (by kernel_rfl) trivial ?_
            exact m8 h
           ·have h := h
            refine dsq (ob := True) (st' := (⟨54, [e31_81, e31_173, e31_166, e31_143, e31_45, e31_97, e31_111 g, e31_7 g, e31_27 g, sI 68 v14, e31_112 w, e31_128], [e31_162 v14, e31_88 l30100, e31_0 g, e31_10 l30102 v14 l30100, e31_121 l30100]⟩ : St)) rfl (by kernel_rfl) trivial ?_
            refine awd_one (i := 11) (by kernel_rfl) ?_
            refine dsq (ob := True) (st' := (⟨54, [e31_81, e31_173, e31_151, e31_143, e31_45, e31_97, e31_111 g, e31_7 g, e31_27 g, sI 68 v14, e31_112 w, e31_128], [e31_162 v14, e31_88 l30100, e31_0 g, e31_10 l30102 v14 l30100, e31_121 l30100]⟩ : St)) rfl (by kernel_rfl) trivial ?_
            refine awd_perm e31_n1 (by kernel_rfl) (by kernel_rfl) ?_
            exact m8 h
         ·obtain ⟨o1, o2, h⟩ := h
          refine drq (by kernel_rfl) e31_n5 (ob := (Ts 5 (inIdx (0 : Int) l30102.length ∧ Ts 6 (inIdx (0 : Int) l30100.length ∧ True)))) (done' := e31_n6) (st' := (⟨54, [e31_32, e31_114, sp 5 5, s1 27 (.el 30102 (((0 : Int)).toNat) 1), e31_138 v14, s1 35 (.el 30100 (((0 : Int)).toNat) 1), e31_45, e31_97, e31_111 g, e31_7 g, e31_27 g, sI 68 v14, e31_112 w, e31_128], [e31_76 v14, e31_49 l30100, e31_0 g, e31_60 l30102]⟩ : St)) (by kernel_rfl) (tsI 5 (⟨o1, tsI 6 ⟨o2, trivial⟩⟩)) ?_
          refine dop 27 82000 [82001] (ob := True) (C := [(82001, 30102)]) (st' := (⟨54, [e31_147, e31_32, e31_114, sp 5 5, e31_138 v14, s1 35 (.el 30100 (((0 : Int)).toNat) 1), e31_45, e31_97, e31_111 g, e31_7 g, e31_27 g, sI 68 v14, e31_112 w, e31_128], [e31_69 l30102, e31_76 v14, e31_49 l30100, e31_0 g, e31_52 l30102]⟩ : St)) (by kernel_rfl) (by kernel_rfl) trivial ?_
          refine dop 35 82010 [82011] (ob := True) (C := [(82011, 30100)]) (st' := (⟨54, [s1 35 (.ep 30100 82010 0), e31_147, e31_32, e31_114, sp 5 5, e31_138 v14, e31_45, e31_97, e31_111 g, e31_7 g, e31_27 g, sI 68 v14, e31_112 w, e31_128], [e31_135 l30100, e31_69 l30102, e31_76 v14, e31_99 l30100, e31_0 g, e31_52 l30102]⟩ : St)) (by kernel_rfl) (by kernel_rfl) trivial ?_
          refine drq (by kernel_rfl) [14, 15] (ob := (Ts 2 True)) (done' := e31_n3) (st' := (⟨54, [e31_32, e31_114, sp 5 5, e31_147, e31_138 v14, e31_155 l30100, e31_45, e31_97, e31_111 g, e31_7 g, e31_27 g, sI 68 v14, e31_112 w, e31_128], [e31_76 v14, e31_99 l30100, e31_0 g, e31_52 l30102, e31_69 l30102, e31_135 l30100]⟩ : St)) (by kernel_rfl) (tsI 2 trivial) ?_
          refine awd_one (i := 6) (by kernel_rfl) ?_
          refine dsq (ob := True) (st' := (⟨54, [e31_32, e31_114, sp 5 5, e31_167, e31_138 v14, e31_155 l30100, e31_45, e31_97, e31_111 g, e31_7 g, e31_27 g, sI 68 v14, e31_112 w, e31_128], [e31_76 v14, e31_99 l30100, e31_0 g, e31_52 l30102, e31_69 l30102, e31_135 l30100]⟩ : St)) rfl (by kernel_rfl) trivial ?_
          refine awd_perm e31_n0 (by kernel_rfl) (by kernel_rfl) ?_
          exact m7 h
        ·have h := h.2 hb
         refine cpr (st' := (⟨54, [e31_45, e31_97, e31_111 g, e31_7 g, e31_27 g, sI 68 v14, e31_112 w, e31_128], [e31_49 l30100, e31_0 g, e31_60 l30102]⟩ : St)) (by kernel_rfl) ?_
         refine aw_skip ?_
         exact rest21 (l30100, l30102) h
      ·have h := h.2 hb
       refine cpr (st' := (⟨30, [e31_32, e31_114, sI 2 g.2.2.1, e31_39 g, e31_84 g, sI 14 v14, s1 31 (.pS w), e31_168], [e31_49 l30100, e31_0 g, e31_60 l30102]⟩ : St)) (by kernel_rfl) ?_
       refine aw_skip ?_
       exact rest20 (l30100, l30102) h
    ·have h := h.2 hb
     refine cpr (st' := (⟨30, [s1 31 (.pS w), e31_168], [e31_49 l30100, e31_0 g, e31_60 l30102]⟩ : St)) (by kernel_rfl) ?_
     refine aw_exit ?_
     refine thenQ_x ?_
     refine thenQ_x ?_
     refine blockQ_hit ?_
     exact rest19 (l30100, l30102) h
  ·refine aw_block ?_
   refine cnb 17 5 6105 141 0 (.mp t3 tI) (ob := True) (C := []) (st' := (⟨97, [e31_75 w, sp 2 2, sp 5 17, e31_48 w, sI 23 (0 : Int)], [e31_157, e31_21 g, e31_23 w, e31_42 g]⟩ : St)) (by kernel_rfl) trivial ?_
   refine cpr (st' := (⟨97, [e31_75 w, sp 2 2, sp 5 17, e31_48 w, sI 23 (0 : Int)], [e31_21 g, e31_23 w, e31_42 g, e31_157]⟩ : St)) (by kernel_rfl) ?_
   refine aw_loop (σ := Int × (List (List ((Int × (Int × Int)) × Int)))) (fun s => (⟨97, [e31_75 w, sp 2 2, sp 5 17, e31_48 w, sI 23 s.1], [e31_21 g, e31_23 w, e31_42 g, (6105, [], .deep 141 0 (.mp t3 tI) s.2 [])]⟩ : St)) (fun s X => VC31_l9 g w K s.1 s.2 X) (s0 := ((0 : Int), ([] : List (List ((Int × (Int × Int)) × Int))))) (fun s X9 h => ?_) h
   obtain ⟨v23, l6105⟩ := s
   have h : VC31_l9 g w K v23 l6105 X9 := h
   unfold VC31_l9 at h
   refine srn 1 ⟨97, [e31_75 w, sp 2 2, sp 5 17, e31_48 w, sI 23 v23, sB 24 (decide (v23 < ((List.replicate (((w.length : Int) + (1 : Int))).toNat ([] : LN)).length : Int)))], [e31_21 g, e31_23 w, e31_42 g, e31_139 l6105]⟩ (by kernel_rfl) rfl ?_
   refine aw_seq ?_
   refine aw_cond (b := (decide (v23 < ((List.replicate (((w.length : Int) + (1 : Int))).toNat ([] : LN)).length : Int)))) (by kernel_rfl) (fun hb => ?_) (fun hb => ?_)
   ·have h := h.1 hb
    refine aw_skip ?_
    refine thenQ_n ?_
    refine aw_seq ?_
    refine aw_block ?_
    refine aw_region ?_
    refine rqT 6 ⟨97, [e31_75 w, sp 2 2, sp 5 17, e31_48 w, sI 23 v23, sp 25 17, s1 29 (.own 6105), s1 30 (.own 30)], [e31_21 g, e31_23 w, e31_42 g, (30, [], .dict t3 tI ([] : List ((Int × (Int × Int)) × Int))), e31_139 l6105]⟩ (by kernel_rfl) ?_
    refine lmk 31 [30] (.deep 141 0 (.mp t3 tI) [([] : List ((Int × (Int × Int)) × Int))] []) (ob := True) rfl rfl (by kernel_rfl) (by kernel_rfl) trivial ?_
    refine lpr (st' := (⟨97, [e31_75 w, sp 2 2, sp 5 17, e31_48 w, sI 23 v23, sp 25 17, s1 29 (.own 6105), s1 31 (.own 31)], [e31_21 g, e31_23 w, e31_42 g, (31, [], .deep 141 0 (.mp t3 tI) [([] : List ((Int × (Int × Int)) × Int))] []), e31_139 l6105]⟩ : St)) (by kernel_rfl) ?_
    obtain ⟨o1, h⟩ := h
    refine lmk 32 [6105, 31] (.deep 141 0 (.mp t3 tI) (l6105 ++ [([] : List ((Int × (Int × Int)) × Int))]) []) (ob := roomN (l6105.length + [([] : List ((Int × (Int × Int)) × Int))].length)) rfl rfl (by kernel_rfl) (by kernel_rfl) o1 ?_
    refine lpr (st' := (⟨97, [e31_75 w, sp 2 2, sp 5 17, e31_48 w, sI 23 v23, sp 25 17, s1 32 (.own 32)], [e31_21 g, e31_23 w, hB 17 [.pI g.1, .pI g.2.1, .pI g.2.2.1, .p (.sl tR) g.2.2.2, .own 15, .any], e31_136 l6105]⟩ : St)) (by kernel_rfl) ?_
    refine rqT 3 ⟨97, [e31_75 w, sp 2 2, sp 5 17, e31_48 w, sI 23 v23], [e31_21 g, e31_23 w, e31_148 g, e31_136 l6105]⟩ (by kernel_rfl) ?_
    refine awl_nil ?_
    refine blockQ_n ?_
    refine thenQ_n ?_
    refine aw_region ?_
    obtain ⟨o1, h⟩ := h
    refine rq 2 (ob := (InR (v23 + (1 : Int)) ∧ Ts 1 True)) (st' := (⟨97, [e31_75 w, sp 2 2, sp 5 17, e31_48 w, sI 23 (v23 + (1 : Int))], [e31_21 g, e31_23 w, e31_148 g, e31_136 l6105]⟩ : St)) (by kernel_rfl) (⟨o1, tsI 1 trivial⟩) ?_
    refine awl_conv [.ren 32 20032, .ren 20032 6105] (st' := (⟨97, [e31_75 w, sp 2 2, sp 5 17, e31_48 w, sI 23 (v23 + (1 : Int))], [e31_21 g, e31_23 w, e31_42 g, (6105, [], .deep 141 0 (.mp t3 tI) (l6105 ++ [([] : List ((Int × (Int × Int)) × Int))]) [])]⟩ : St)) (by kernel_rfl) ?_
    refine awl_nil ?_
    exact thenQ_n ⟨((v23 + (1 : Int)), (l6105 ++ [([] : List ((Int × (Int × Int)) × Int))])), rfl, h⟩
   ·have h := h.2 hb
    refine cpr (st' := (⟨97, [e31_75 w, sp 2 2, sp 5 17], [e31_21 g, e31_23 w, e31_42 g, e31_139 l6105]⟩ : St)) (by kernel_rfl) ?_
    refine aw_exit ?_
    refine thenQ_x ?_
    refine thenQ_x ?_
    refine blockQ_hit ?_
    exact rest22 l6105 h
abbrev e43_0 (g : TG) : Nat × Path × Con := hB 2 [.pI g.1, .pI g.2.1, .pI g.2.2.1, .p (.sl tR) g.2.2.2]
abbrev e43_1 (l : LI) : Nat × Path × AV := sI 8 (l.length : Int)
-- coppicer/coppicerref.Signs
def VC43_k1 (K : Bool → Prop) : Prop :=
  K true
def VC43_l1 (g : TG) (l : LI) (K : Bool → Prop) (v9 : Int) (X1 : Int → Prop) : Prop :=
  (((decide (v9 < (l.length : Int))) = true → (inIdx v9 l.length ∧ (((decide ((l.getD (v9).toNat (0 : Int)) < (0 : Int))) = false → InR (g.1 + g.2.1)) ∧ ((((decide ((l.getD (v9).toNat (0 : Int)) < (0 : Int))) || (decide ((g.1 + g.2.1) ≤ (l.getD (v9).toNat (0 : Int))))) = true → K false) ∧ (((decide ((l.getD (v9).toNat (0 : Int)) < (0 : Int))) || (decide ((g.1 + g.2.1) ≤ (l.getD (v9).toNat (0 : Int))))) = false → (InR (v9 + (1 : Int)) ∧ X1 (v9 + (1 : Int)))))))) ∧ ((decide (v9 < (l.length : Int))) = false → VC43_k1 K))
def VC43 (g : TG) (l : LI) (K : Bool → Prop) : Prop :=
  Loop (σ := Int) (fun s X => VC43_l1 g l K s X) (0 : Int)
set_option maxHeartbeats 4000000 in
theorem link43 (g : TG) (l : LI) (K : Bool → Prop) (h : VC43 g l K) : ACalls Try.prog 43 [toV1 tG g, toV1 (.sl tI) l] (fun res => ∃ y, res = (fun y => [toV1 .bool y]) y ∧ K y) := by
 refine acalls_of_aw [.bool] [.t 4] Try.func43 rfl rfl rfl ?_
 unfold VC43 at h
 refine srn 2 ⟨25, [s1 1 (.pS l), sp 2 2], [e43_0 g]⟩ (by kernel_rfl) rfl ?_
 refine aw_seq ?_
 refine srn 3 ⟨25, [sp 2 2, s1 7 (.pS l), e43_1 l, sI 9 (0 : Int)], [e43_0 g]⟩ (by kernel_rfl) rfl ?_
 refine withJoin (σ := Unit) (fun s => (⟨25, [], []⟩ : St)) (fun s => VC43_k1 K) (fun s h => ?_) (fun rest1 => ?_)
 ·have h : VC43_k1 K := h
  unfold VC43_k1 at h
  refine thenQ_n ?_
  refine srn 1 ⟨25, [sB 4 true], []⟩ (by kernel_rfl) rfl ?_
  refine aw_ret ?_
  exact retQ_r (ob := Ts 1 True) _ (by kernel_rfl) (tsI 1 trivial) h
 ·refine aw_block ?_
  refine aw_loop (σ := Int) (fun s => (⟨25, [sp 2 2, s1 7 (.pS l), e43_1 l, sI 9 s], [e43_0 g]⟩ : St)) (fun s X => VC43_l1 g l K s X) (s0 := (0 : Int)) (fun v9 X1 h => ?_) h
  have h : VC43_l1 g l K v9 X1 := h
  unfold VC43_l1 at h
  refine srn 1 ⟨25, [sp 2 2, s1 7 (.pS l), e43_1 l, sI 9 v9, sB 10 (decide (v9 < (l.length : Int)))], [e43_0 g]⟩ (by kernel_rfl) rfl ?_
  refine aw_seq ?_
  refine aw_cond (b := (decide (v9 < (l.length : Int)))) (by kernel_rfl) (fun hb => ?_) (fun hb => ?_)
  ·have h := h.1 hb
   refine aw_skip ?_
   refine thenQ_n ?_
   refine aw_seq ?_
   refine aw_block ?_
   refine sr ?_
   obtain ⟨o1, h⟩ := h
   refine rq 3 (ob := (inIdx v9 l.length ∧ Ts 2 True)) (st' := (⟨25, [sp 2 2, sI 6 (l.getD (v9).toNat (0 : Int)), s1 7 (.pS l), e43_1 l, sI 9 v9], [e43_0 g]⟩ : St)) (by kernel_rfl) (⟨o1, tsI 2 trivial⟩) ?_
   refine nsr ?_
   obtain ⟨o1, h⟩ := h
   refine rq 11 (ob := (Ts 3 (Ti 5 ((decide ((l.getD (v9).toNat (0 : Int)) < (0 : Int))) = false → True) (((decide ((l.getD (v9).toNat (0 : Int)) < (0 : Int))) = false → InR (g.1 + g.2.1)) ∧ ((decide ((l.getD (v9).toNat (0 : Int)) < (0 : Int))) = false → True) ∧ Ts 1 True)))) (st' := (⟨25, [sp 2 2, s1 7 (.pS l), e43_1 l, sI 9 v9, sB 23 ((decide ((l.getD (v9).toNat (0 : Int)) < (0 : Int))) || (decide ((g.1 + g.2.1) ≤ (l.getD (v9).toNat (0 : Int)))))], [e43_0 g]⟩ : St)) (by kernel_rfl) (tsI 3 (tiI 5 (fun _ => trivial) (⟨o1, ⟨(fun _ => trivial), tsI 1 trivial⟩⟩))) ?_
   refine nn ?_
   refine aw_cond (b := ((decide ((l.getD (v9).toNat (0 : Int)) < (0 : Int))) || (decide ((g.1 + g.2.1) ≤ (l.getD (v9).toNat (0 : Int)))))) (by kernel_rfl) (fun hb => ?_) (fun hb => ?_)
   ·have h := h.1 hb
    refine srn 1 ⟨25, [sB 4 false], []⟩ (by kernel_rfl) rfl ?_
    refine aw_ret ?_
    refine blockQ_r ?_
    refine thenQ_r ?_
    refine thenQ_r ?_
    refine blockQ_r ?_
    refine thenQ_r ?_
    exact retQ_r (ob := Ts 1 True) _ (by kernel_rfl) (tsI 1 trivial) h
   ·have h := h.2 hb
    refine aw_skip ?_
    refine blockQ_n ?_
    refine thenQ_n ?_
    refine aw_region ?_
    obtain ⟨o1, h⟩ := h
    refine rq 2 (ob := (InR (v9 + (1 : Int)) ∧ Ts 1 True)) (st' := (⟨25, [sp 2 2, s1 7 (.pS l), e43_1 l, sI 9 (v9 + (1 : Int))], [e43_0 g]⟩ : St)) (by kernel_rfl) (⟨o1, tsI 1 trivial⟩) ?_
    refine awl_nil ?_
    exact thenQ_n ⟨(v9 + (1 : Int)), rfl, h⟩
  ·have h := h.2 hb
   refine cpr (st' := (⟨25, [], []⟩ : St)) (by kernel_rfl) ?_
   refine aw_exit ?_
   refine thenQ_x ?_
   refine thenQ_x ?_
   refine blockQ_hit ?_
   exact rest1 () h
end Dec
