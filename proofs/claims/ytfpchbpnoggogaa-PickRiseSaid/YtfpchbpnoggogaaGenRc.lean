/-
  Printed by dec2.py: of each function its plain demand, and that the demand gives the contract.
-/
import Derived.Test.YtfpchbpnoggogaaGenRb
set_option linter.unusedVariables false
set_option linter.unusedSimpArgs false
set_option maxRecDepth 100000
namespace Dec
open Go Go.RowKit Go.Proofs

abbrev e33b0 (c3 : (List (Int × LI))) (v31 : Int) : Nat × Path × Con := hB 30005 [.pI ((c3.getD (v31).toNat ((0 : Int), ([] : LI))).1), .pS ((c3.getD (v31).toNat ((0 : Int), ([] : LI))).2)]
abbrev e33b1 (c0 : Int) (c1 : Int) (c2 : Int) (c3 : (List (Int × LI))) (c4 : LI) : Nat × Path × Con := hB 40400 [.pI c0, .pI c1, .pI c2, .p (.sl (.pr (.int .i64) (.sl (.int .i64)))) c3, .pS c4, .own 40401]
abbrev e33b2 (c3 : (List (Int × LI))) (v31 : Int) (v72 : Int) (v12 : Int) (ret55v : (List (Int × Int))) : Nat × Path × Con := hB 7 [.pI (-1 : Int), .pI ((((c3.getD (v31).toNat ((0 : Int), ([] : LI))).2).drop ((v72 + (1 : Int))).toNat).getD (v12).toNat (0 : Int)), .pI (((ret55v.drop ((v72 + (1 : Int))).toNat).getD (v12).toNat ((0 : Int), (0 : Int))).1), .pI (((ret55v.drop ((v72 + (1 : Int))).toNat).getD (v12).toNat ((0 : Int), (0 : Int))).2)]
abbrev e33b3 (ret55v : (List (Int × Int))) (v72 : Int) (v12 : Int) : Nat × Path × Con := hB 5 [.pI (((ret55v.drop ((v72 + (1 : Int))).toNat).getD (v12).toNat ((0 : Int), (0 : Int))).1), .pI (((ret55v.drop ((v72 + (1 : Int))).toNat).getD (v12).toNat ((0 : Int), (0 : Int))).2)]
abbrev e33b4 (c3 : (List (Int × LI))) (v31 : Int) (v72 : Int) : Nat × Path × AV := sI 98 ((((c3.getD (v31).toNat ((0 : Int), ([] : LI))).2).drop ((v72 + (1 : Int))).toNat).length : Int)
abbrev e33b5 (c3 : (List (Int × LI))) (v31 : Int) (v72 : Int) : Nat × Path × AV := s1 97 (.pS (((c3.getD (v31).toNat ((0 : Int), ([] : LI))).2).drop ((v72 + (1 : Int))).toNat))
abbrev e33b6 (sign : Int) (over : Int) : Nat × Path × Con := hB 30001 [.pI sign, .pI over]
abbrev e33b7 (ret55v : (List (Int × Int))) (v72 : Int) : Nat × Path × AV := s1 89 (.p (.sl (.pr (.int .i64) (.int .i64))) (ret55v.drop ((v72 + (1 : Int))).toNat))
abbrev e33b8 (c3 : (List (Int × LI))) (v31 : Int) (v72 : Int) : Nat × Path × AV := sI 131 (((c3.getD (v31).toNat ((0 : Int), ([] : LI))).2).getD (v72).toNat (0 : Int))
abbrev e33b9 (ret55v : (List (Int × Int))) : Nat × Path × AV := s1 127 (.p (.sl (.pr (.int .i64) (.int .i64))) ret55v)
abbrev e33b10 (c3 : (List (Int × LI))) (v31 : Int) (v72 : Int) (v12 : Int) : Nat × Path × AV := sI 1 ((((c3.getD (v31).toNat ((0 : Int), ([] : LI))).2).drop ((v72 + (1 : Int))).toNat).getD (v12).toNat (0 : Int))
abbrev e33b11 (c3 : (List (Int × LI))) (v31 : Int) (v12 : Int) (ret55v : (List (Int × Int))) : Nat × Path × Con := hB 7 [.pI (-1 : Int), .pI (((c3.getD (v31).toNat ((0 : Int), ([] : LI))).2).getD (v12).toNat (0 : Int)), .pI ((ret55v.getD (v12).toNat ((0 : Int), (0 : Int))).1), .pI ((ret55v.getD (v12).toNat ((0 : Int), (0 : Int))).2)]
abbrev e33b12 (c3 : (List (Int × LI))) (v31 : Int) : Nat × Path × AV := sI 186 (((c3.getD (v31).toNat ((0 : Int), ([] : LI))).2).length : Int)
abbrev e33b13 (c6 : LI) : Nat × Path × Con := hA 30006 3 (.int .i64) c6
abbrev e33b14 : Nat × Path × Con := hB 30003 [.own 30006]
abbrev e33b15 : Nat × Path × Con := hB 30000 [.ptr 40400 0]
abbrev e33b16 (c3 : (List (Int × LI))) (v31 : Int) : Nat × Path × AV := s1 185 (.pS ((c3.getD (v31).toNat ((0 : Int), ([] : LI))).2))
abbrev e33b17 (v31 : Int) : Nat × Path × Con := hB 30004 [.pI v31]
abbrev e33b18 (out : LI) : Nat × Path × Con := hA 30400 3 (.int .i64) out
abbrev e33b19 (ret55v : (List (Int × Int))) (v12 : Int) : Nat × Path × Con := hB 5 [.pI ((ret55v.getD (v12).toNat ((0 : Int), (0 : Int))).1), .pI ((ret55v.getD (v12).toNat ((0 : Int), (0 : Int))).2)]
abbrev e33b20 (c3 : (List (Int × LI))) (v31 : Int) (v72 : Int) : Nat × Path × AV := sI 44 (((c3.getD (v31).toNat ((0 : Int), ([] : LI))).2).getD (v72).toNat (0 : Int))
abbrev e33b21 (c3 : (List (Int × LI))) : Nat × Path × AV := s1 56 (.p (.sl (.pr (.int .i64) (.sl (.int .i64)))) c3)
abbrev e33b22 (c0 : Int) (c1 : Int) (c2 : Int) (c3 : (List (Int × LI))) (c4 : LI) : Nat × Path × Con := hB 40200 [.pI c0, .pI c1, .pI c2, .p (.sl (.pr (.int .i64) (.sl (.int .i64)))) c3, .pS c4, .own 40201]
abbrev e33b23 (ret55v : (List (Int × Int))) : Nat × Path × AV := s1 40 (.p (.sl (.pr (.int .i64) (.int .i64))) ret55v)
abbrev e33b24 (l404014 : (List ((Int × (Int × (Int × Int))) × Int))) : Nat × Path × Con := (40401, [], .dict (.pr (.int .i64) t3) (.int .i64) l404014)
abbrev e33b25 (c3 : (List (Int × LI))) (v31 : Int) : Nat × Path × AV := sI 98 (((c3.getD (v31).toNat ((0 : Int), ([] : LI))).2).length : Int)
abbrev e33b26 (c3 : (List (Int × LI))) (v31 : Int) : Nat × Path × AV := sI 99 (((c3.getD (v31).toNat ((0 : Int), ([] : LI))).2).length : Int)
abbrev e33b27 (ret55v : (List (Int × Int))) (v72 : Int) : Nat × Path × AV := s1 2 (.p (.sl (.pr (.int .i64) (.int .i64))) (ret55v.drop ((v72 + (1 : Int))).toNat))
abbrev e33b28 (i3 : Int) : Nat × Path × Con := hB 30002 [.pI i3]
abbrev e33b29 (c3 : (List (Int × LI))) (v31 : Int) : Nat × Path × AV := s1 97 (.pS ((c3.getD (v31).toNat ((0 : Int), ([] : LI))).2))
abbrev e33b30 (c3 : (List (Int × LI))) (v31 : Int) (v72 : Int) : Nat × Path × AV := sI 11 ((((c3.getD (v31).toNat ((0 : Int), ([] : LI))).2).drop ((v72 + (1 : Int))).toNat).length : Int)
abbrev e33b31 (l404013 : (List ((Int × (Int × (Int × Int))) × Int))) : Nat × Path × Con := (40401, [], .dict (.pr (.int .i64) t3) (.int .i64) l404013)
abbrev e33b32 (c3 : (List (Int × LI))) (v31 : Int) (v12 : Int) : Nat × Path × AV := sI 1 (((c3.getD (v31).toNat ((0 : Int), ([] : LI))).2).getD (v12).toNat (0 : Int))
abbrev e33b33 (c3 : (List (Int × LI))) (v31 : Int) : Nat × Path × AV := s1 98 (.pS ((c3.getD (v31).toNat ((0 : Int), ([] : LI))).2))
abbrev e33b34 (c3 : (List (Int × LI))) (v31 : Int) : Nat × Path × AV := sI 71 (((c3.getD (v31).toNat ((0 : Int), ([] : LI))).2).length : Int)
abbrev e33b35 (ret55v : (List (Int × Int))) : Nat × Path × AV := s1 89 (.p (.sl (.pr (.int .i64) (.int .i64))) ret55v)
abbrev e33b36 (c3 : (List (Int × LI))) (v31 : Int) (v72 : Int) : Nat × Path × AV := s1 10 (.pS (((c3.getD (v31).toNat ((0 : Int), ([] : LI))).2).drop ((v72 + (1 : Int))).toNat))
abbrev e33b37 (ret55v : (List (Int × Int))) : Nat × Path × AV := s1 12 (.p (.sl (.pr (.int .i64) (.int .i64))) ret55v)
abbrev e33b38 (c3 : (List (Int × LI))) (v31 : Int) : Nat × Path × AV := s1 70 (.pS ((c3.getD (v31).toNat ((0 : Int), ([] : LI))).2))
abbrev e33b39 (l404012 : (List ((Int × (Int × (Int × Int))) × Int))) : Nat × Path × Con := (40401, [], .dict (.pr (.int .i64) t3) (.int .i64) l404012)
abbrev e33b40 : Nat × Path × AV := s1 129 (.own 30400)
abbrev e33b41 (l404015 : (List ((Int × (Int × (Int × Int))) × Int))) : Nat × Path × Con := (40401, [], .dict (.pr (.int .i64) t3) (.int .i64) l404015)
abbrev e33b42 (c3 : (List (Int × LI))) (v31 : Int) (v72 : Int) : Nat × Path × AV := sI 16 (((c3.getD (v31).toNat ((0 : Int), ([] : LI))).2).getD (v72).toNat (0 : Int))
abbrev e33b43 (l40401 : (List ((Int × (Int × (Int × Int))) × Int))) : Nat × Path × Con := (40401, [], .dict (.pr (.int .i64) t3) (.int .i64) l40401)
abbrev e33b44 : Nat × Path × AV := sp 119 30000
abbrev e33b45 : Nat × Path × AV := sp 122 30002
abbrev e33b46 : Nat × Path × AV := sp 123 30003
abbrev e33b47 : Nat × Path × AV := sp 125 30005
abbrev e33b48 : Nat × Path × AV := sp 221 30000
abbrev e33b49 : Nat × Path × AV := sp 222 30001
abbrev e33b50 : Nat × Path × AV := sp 223 30002
abbrev e33b51 : Nat × Path × AV := sp 224 30003
abbrev e33b52 : Nat × Path × AV := sp 225 30004
abbrev e33b53 : Nat × Path × AV := sp 226 30005
abbrev e33b54 (ret55v : (List (Int × Int))) (v72 : Int) (v12 : Int) : Nat × Path × AV := sA 76 [.pI (((ret55v.drop ((v72 + (1 : Int))).toNat).getD (v12).toNat ((0 : Int), (0 : Int))).1), .pI (((ret55v.drop ((v72 + (1 : Int))).toNat).getD (v12).toNat ((0 : Int), (0 : Int))).2)]
abbrev e33b55 (l404015 : (List ((Int × (Int × (Int × Int))) × Int))) (c3 : (List (Int × LI))) (v31 : Int) (v72 : Int) (v12 : Int) (ret55v : (List (Int × Int))) (n3 : Int) : Nat × Path × Con := (40401, [], .dict (.pr (.int .i64) t3) (.int .i64) (mset l404015 ((-1 : Int), (((((c3.getD (v31).toNat ((0 : Int), ([] : LI))).2).drop ((v72 + (1 : Int))).toNat).getD (v12).toNat (0 : Int)), ((ret55v.drop ((v72 + (1 : Int))).toNat).getD (v12).toNat ((0 : Int), (0 : Int))))) n3))
abbrev e33b56 (c22 : Int) : Nat × Path × Con := hB 30002 [.pI c22]
abbrev e33b57 (c3 : (List (Int × LI))) : Nat × Path × AV := sI 57 (c3.length : Int)
abbrev e33b58 (l404014 : (List ((Int × (Int × (Int × Int))) × Int))) (c3 : (List (Int × LI))) (v31 : Int) (v72 : Int) (v12 : Int) (ret55v : (List (Int × Int))) : Nat × Path × AV := sI 8 ((mget l404014 ((-1 : Int), (((((c3.getD (v31).toNat ((0 : Int), ([] : LI))).2).drop ((v72 + (1 : Int))).toNat).getD (v12).toNat (0 : Int)), ((ret55v.drop ((v72 + (1 : Int))).toNat).getD (v12).toNat ((0 : Int), (0 : Int)))))).getD (0 : Int))
abbrev e33b59 (ret55v : (List (Int × Int))) (v72 : Int) (v12 : Int) (c4 : LI) (c3 : (List (Int × LI))) (v31 : Int) : Nat × Path × AV := sB 37 ((decide (((ret55v.drop ((v72 + (1 : Int))).toNat).getD (v12).toNat ((0 : Int), (0 : Int))).2 = (((ret55v.drop ((v72 + (1 : Int))).toNat).getD (v12).toNat ((0 : Int), (0 : Int))).1 + (1 : Int)))) && (decide ((c4.getD (((ret55v.drop ((v72 + (1 : Int))).toNat).getD (v12).toNat ((0 : Int), (0 : Int))).1).toNat (0 : Int)) = ((((c3.getD (v31).toNat ((0 : Int), ([] : LI))).2).drop ((v72 + (1 : Int))).toNat).getD (v12).toNat (0 : Int)))))
abbrev e33b60 : Nat × Path × AV := sp 227 40400
abbrev e33b61 : Nat × Path × AV := sp 0 40400
abbrev e33b62 : Nat × Path × AV := sp 87 40400
abbrev e33b63 (ret77v : Int × (List ((Int × (Int × (Int × Int))) × Int))) : Nat × Path × Con := (40201, [], .dict (.pr (.int .i64) t3) (.int .i64) ret77v.2)
abbrev e33b64 (c3 : (List (Int × LI))) : Nat × Path × AV := s1 29 (.p (.sl (.pr (.int .i64) (.sl (.int .i64)))) c3)
abbrev e33b65 (c3 : (List (Int × LI))) (v31 : Int) (v72 : Int) (v12 : Int) (ret55v : (List (Int × Int))) : Nat × Path × AV := sA 84 [.pI (-1 : Int), .pI ((((c3.getD (v31).toNat ((0 : Int), ([] : LI))).2).drop ((v72 + (1 : Int))).toNat).getD (v12).toNat (0 : Int)), .pI (((ret55v.drop ((v72 + (1 : Int))).toNat).getD (v12).toNat ((0 : Int), (0 : Int))).1), .pI (((ret55v.drop ((v72 + (1 : Int))).toNat).getD (v12).toNat ((0 : Int), (0 : Int))).2)]
abbrev e33b66 (ret55v : (List (Int × Int))) : Nat × Path × AV := s1 2 (.p (.sl (.pr (.int .i64) (.int .i64))) ret55v)
abbrev e33b67 (c3 : (List (Int × LI))) (v31 : Int) : Nat × Path × AV := sI 11 (((c3.getD (v31).toNat ((0 : Int), ([] : LI))).2).length : Int)
abbrev e33b68 (ret55v : (List (Int × Int))) (v72 : Int) : Nat × Path × AV := s1 86 (.p (.sl (.pr (.int .i64) (.int .i64))) (ret55v.drop ((v72 + (1 : Int))).toNat))
abbrev e33b69 (c122 : (List ((Int × (Int × (Int × Int))) × Int))) : Nat × Path × Con := (40401, [], .dict (.pr (.int .i64) t3) (.int .i64) c122)
abbrev e33b70 (c3 : (List (Int × LI))) (v31 : Int) (v72 : Int) : Nat × Path × AV := s1 1 (.pS (((c3.getD (v31).toNat ((0 : Int), ([] : LI))).2).drop ((v72 + (1 : Int))).toNat))
abbrev e33b71 : Nat × Path × Con := hB 30000 [.ptr 40200 0]
abbrev e33b72 : Nat × Path × AV := sp 134 30000
abbrev e33b73 : Nat × Path × AV := sp 135 30001
abbrev e33b74 : Nat × Path × AV := sp 136 30002
abbrev e33b75 : Nat × Path × AV := sp 137 30003
abbrev e33b76 : Nat × Path × AV := sp 138 30004
abbrev e33b77 : Nat × Path × AV := sp 139 30005
abbrev e33b78 : Nat × Path × AV := sp 140 40400
abbrev e33b79 (c3 : (List (Int × LI))) (v31 : Int) : Nat × Path × AV := s1 10 (.pS ((c3.getD (v31).toNat ((0 : Int), ([] : LI))).2))
abbrev e33b80 : Nat × Path × AV := s1 42 (.own 30400)
abbrev e33b81 : Nat × Path × AV := sp 112 40400
abbrev e33b82 : Nat × Path × AV := sp 32 30000
abbrev e33b83 : Nat × Path × AV := sp 35 30002
abbrev e33b84 : Nat × Path × AV := sp 36 30003
abbrev e33b85 : Nat × Path × AV := sp 38 30005
abbrev e33b86 : Nat × Path × AV := sp 106 30000
abbrev e33b87 : Nat × Path × AV := sp 107 30001
abbrev e33b88 : Nat × Path × AV := sp 108 30002
abbrev e33b89 : Nat × Path × AV := sp 109 30003
abbrev e33b90 : Nat × Path × AV := sp 110 30004
abbrev e33b91 : Nat × Path × AV := sp 111 30005
abbrev e33b92 (c3 : (List (Int × LI))) : Nat × Path × AV := s1 37 (.p (.sl (.pr (.int .i64) (.sl (.int .i64)))) c3)
abbrev e33b93 (ret98v : LI × (List ((Int × (Int × (Int × Int))) × Int))) : Nat × Path × Con := (40401, [], .dict (.pr (.int .i64) t3) (.int .i64) ret98v.2)
abbrev e33b94 : Nat × Path × AV := sp 10 30005
abbrev e33b95 : Nat × Path × AV := sp 8 30003
abbrev e33b96 : Nat × Path × AV := sp 124 30004
abbrev e33b97 (c5 : (List ((Int × (Int × (Int × Int))) × Int))) : Nat × Path × Con := (40401, [], .dict (.pr (.int .i64) t3) (.int .i64) c5)
abbrev e33b98 (ret55v : (List (Int × Int))) (v72 : Int) (v12 : Int) : Nat × Path × AV := sA 110 [.pI (((ret55v.drop ((v72 + (1 : Int))).toNat).getD (v12).toNat ((0 : Int), (0 : Int))).1), .pI (((ret55v.drop ((v72 + (1 : Int))).toNat).getD (v12).toNat ((0 : Int), (0 : Int))).2)]
abbrev e33b99 (ret55v : (List (Int × Int))) (v72 : Int) (v12 : Int) : Nat × Path × AV := sA 23 [.pI (((ret55v.drop ((v72 + (1 : Int))).toNat).getD (v12).toNat ((0 : Int), (0 : Int))).1), .pI (((ret55v.drop ((v72 + (1 : Int))).toNat).getD (v12).toNat ((0 : Int), (0 : Int))).2)]
abbrev e33b100 (ret55v : (List (Int × Int))) (v72 : Int) (v12 : Int) : Nat × Path × AV := sA 2 [.pI (((ret55v.drop ((v72 + (1 : Int))).toNat).getD (v12).toNat ((0 : Int), (0 : Int))).1), .pI (((ret55v.drop ((v72 + (1 : Int))).toNat).getD (v12).toNat ((0 : Int), (0 : Int))).2)]
abbrev e33b101 : Nat × Path × AV := sp 4 30000
abbrev e33b102 : Nat × Path × AV := sp 7 30002
abbrev e33b103 (c3 : (List (Int × LI))) (v58 : Int) (v31 : Int) (v72 : Int) (v12 : Int) (c0 : Int) : Nat × Path × AV := sB 72 (decide ((c3.getD (v58).toNat ((0 : Int), ([] : LI))).1 = (((((c3.getD (v31).toNat ((0 : Int), ([] : LI))).2).drop ((v72 + (1 : Int))).toNat).getD (v12).toNat (0 : Int)) - c0)))
abbrev e33b104 (ret55v : (List (Int × Int))) (v12 : Int) : Nat × Path × AV := sA 76 [.pI ((ret55v.getD (v12).toNat ((0 : Int), (0 : Int))).1), .pI ((ret55v.getD (v12).toNat ((0 : Int), (0 : Int))).2)]
abbrev e33b105 (c3 : (List (Int × LI))) (v31 : Int) (sign : Int) (over : Int) : Nat × Path × Con := hB 40811 [.cl 122 [.ad ⟨(.int .i64), (((c3.getD (v31).toNat ((0 : Int), ([] : LI))).2).length : Int)⟩, .pt 40800 0, .ad ⟨(.pr (.int .i64) (.int .i64)), (sign, over)⟩, .pt 40811 0]]
abbrev e33b106 (c3 : (List (Int × LI))) (v31 : Int) (sign : Int) (over : Int) : Nat × Path × AV := s1 6 (.cl 122 [.ad ⟨(.int .i64), (((c3.getD (v31).toNat ((0 : Int), ([] : LI))).2).length : Int)⟩, .pt 40800 0, .ad ⟨(.pr (.int .i64) (.int .i64)), (sign, over)⟩, .pt 40811 0])
abbrev e33b107 (c3 : (List (Int × LI))) (v31 : Int) : Nat × Path × Con := hB 10 [.pI ((c3.getD (v31).toNat ((0 : Int), ([] : LI))).1), .pS ((c3.getD (v31).toNat ((0 : Int), ([] : LI))).2)]
abbrev e33b108 (c3 : (List (Int × LI))) (v58 : Int) : Nat × Path × Con := hB 12 [.pI ((c3.getD (v58).toNat ((0 : Int), ([] : LI))).1), .pS ((c3.getD (v58).toNat ((0 : Int), ([] : LI))).2)]
abbrev e33b109 (l6160 : LI) : Nat × Path × Con := hA 30006 3 (.int .i64) l6160
abbrev e33b110 (c3 : (List (Int × LI))) (v31 : Int) (sign : Int) (over : Int) : Nat × Path × Con := hB 4 [.cl 122 [.ad ⟨(.int .i64), (((c3.getD (v31).toNat ((0 : Int), ([] : LI))).2).length : Int)⟩, .pt 3 0, .ad ⟨(.pr (.int .i64) (.int .i64)), (sign, over)⟩, .pt 4 0]]
abbrev e33b111 (sign : Int) (over : Int) : Nat × Path × Con := hB 6 [.pI sign, .pI over]
abbrev e33b112 (c3 : (List (Int × LI))) : Nat × Path × AV := sI 30 (c3.length : Int)
abbrev e33b113 : Nat × Path × AV := s1 14 (.own 30400)
abbrev e33b114 : Nat × Path × AV := sp 227 40200
abbrev e33b115 (c3 : (List (Int × LI))) (v31 : Int) (v72 : Int) : Nat × Path × AV := s1 82 (.pS (((c3.getD (v31).toNat ((0 : Int), ([] : LI))).2).drop ((v72 + (1 : Int))).toNat))
abbrev e33b116 : Nat × Path × AV := sp 106 40400
abbrev e33b117 : Nat × Path × AV := sp 87 40200
abbrev e33b118 (c3 : (List (Int × LI))) (v31 : Int) : Nat × Path × AV := s1 1 (.ad (.int .i64) (((c3.getD (v31).toNat ((0 : Int), ([] : LI))).2).length : Int))
abbrev e33b119 (ret7v : Bool × Int × (List ((Int × (Int × (Int × Int))) × Int)) × Int × LI) : Nat × Path × Con := (40401, [], .dict (.pr (.int .i64) t3) (.int .i64) ret7v.2.2.1)
abbrev e33b120 : Nat × Path × Con := hB 4 [.ptr 40400 0]
abbrev e33b121 (ret55v : (List (Int × Int))) (v72 : Int) : Nat × Path × AV := sA 94 [.pI ((ret55v.getD (v72).toNat ((0 : Int), (0 : Int))).1), .pI ((ret55v.getD (v72).toNat ((0 : Int), (0 : Int))).2)]
abbrev e33b122 : Nat × Path × AV := sp 0 40200
abbrev e33b123 (l404015 : (List ((Int × (Int × (Int × Int))) × Int))) : Nat × Path × Con := (40201, [], .dict (.pr (.int .i64) t3) (.int .i64) l404015)
abbrev e33b124 (c3 : (List (Int × LI))) : Nat × Path × AV := s1 35 (.p (.sl (.pr (.int .i64) (.sl (.int .i64)))) c3)
abbrev e33b125 (i2 : Int) : Nat × Path × Con := hB 30002 [.pI i2]
abbrev e33b126 : Nat × Path × Con := hB 8 [.own 6160]
abbrev e33b127 (c3 : (List (Int × LI))) : Nat × Path × AV := sI 38 (c3.length : Int)
abbrev e33b128 (c3 : (List (Int × LI))) (v31 : Int) : Nat × Path × AV := s1 1 (.pS ((c3.getD (v31).toNat ((0 : Int), ([] : LI))).2))
abbrev e33b129 : Nat × Path × AV := sp 37 30004
abbrev e33b130 (l6160 : LI) : Nat × Path × Con := hA 6160 3 (.int .i64) l6160
abbrev e33b131 : Nat × Path × AV := s1 90108 (.yv 37100)
abbrev e33b132 : Nat × Path × AV := s1 14 (.own 68)
-- coppicer/pick.nth
def VCc67_k1 (K : LI × (List ((Int × (Int × (Int × Int))) × Int)) → Prop) (l6160 : LI) (l40401 : (List ((Int × (Int × (Int × Int))) × Int))) : Prop :=
  K (([] : List Int), l40401)

def VCc67_k2 (v31 : Int) (X1 : Int × Int × LI × (List ((Int × (Int × (Int × Int))) × Int)) → Prop) (i3 : Int) (l61602 : LI) (l404012 : (List ((Int × (Int × (Int × Int))) × Int))) : Prop :=
  (InR (v31 + (1 : Int)) ∧ X1 ((v31 + (1 : Int)), i3, l61602, l404012))

def VCc67_k4 (Kf : (Int × Int × LI × (List ((Int × (Int × (Int × Int))) × Int))) → Prop) (out : LI) (l30002 : Int) (l404013 : (List ((Int × (Int × (Int × Int))) × Int))) : Prop :=
  Kf ((1 : Int), l30002, out, l404013)

def VCc67_k5 (c3 : (List (Int × LI))) (R : Int → Int → Int → Int → (List ((Int × (Int × (Int × Int))) × Int)) → (LI × (List ((Int × (Int × (Int × Int))) × Int)) → Prop) → Prop) (v31 : Int) (ret55v : (List (Int × Int))) (v72 : Int) (out : LI) (i3 : Int) (X2 : Int × LI × Int × (List ((Int × (Int × (Int × Int))) × Int)) → Prop) (restv : Int) (l404014 : (List ((Int × (Int × (Int × Int))) × Int))) : Prop :=
  (inIdx v72 ret55v.length ∧ (0 ≤ i3 ∧ 0 < restv) ∧ R (((c3.getD (v31).toNat ((0 : Int), ([] : LI))).2).getD (v72).toNat (0 : Int)) ((ret55v.getD (v72).toNat ((0 : Int), (0 : Int))).1) ((ret55v.getD (v72).toNat ((0 : Int), (0 : Int))).2) (i3 / restv) l404014 (fun (ret98v : LI × (List ((Int × (Int × (Int × Int))) × Int))) => (roomN (out.length + ret98v.1.length) ∧ ((0 ≤ i3 ∧ 0 < restv) ∧ (InR (v72 + (1 : Int)) ∧ X2 ((v72 + (1 : Int)), (out ++ ret98v.1), (i3 % restv), ret98v.2))))))

def VCc67_k6 (c3 : (List (Int × LI))) (R : Int → Int → Int → Int → (List ((Int × (Int × (Int × Int))) × Int)) → (LI × (List ((Int × (Int × (Int × Int))) × Int)) → Prop) → Prop) (v31 : Int) (ret55v : (List (Int × Int))) (v72 : Int) (out : LI) (i3 : Int) (X2 : Int × LI × Int × (List ((Int × (Int × (Int × Int))) × Int)) → Prop) (n2 : Int) (l404014 : (List ((Int × (Int × (Int × Int))) × Int))) : Prop :=
  VCc67_k5 c3 R v31 ret55v v72 out i3 X2 n2 l404014

def VCc67_k7 (n2 : Int) (v12 : Int) (X3 : Int × Int × (List ((Int × (Int × (Int × Int))) × Int)) → Prop) (v6 : Int) (l404015 : (List ((Int × (Int × (Int × Int))) × Int))) : Prop :=
  VC124 n2 v6 (fun (ret25v : Int) => (InR (v12 + (1 : Int)) ∧ X3 (ret25v, (v12 + (1 : Int)), l404015)))

def VCc67_k8 (c3 : (List (Int × LI))) (v31 : Int) (ret55v : (List (Int × Int))) (v72 : Int) (n2 : Int) (v12 : Int) (X3 : Int × Int × (List ((Int × (Int × (Int × Int))) × Int)) → Prop) (n3 : Int) (l404015 : (List ((Int × (Int × (Int × Int))) × Int))) : Prop :=
  VCc67_k7 n2 v12 X3 n3 (mset l404015 ((-1 : Int), (((((c3.getD (v31).toNat ((0 : Int), ([] : LI))).2).drop ((v72 + (1 : Int))).toNat).getD (v12).toNat (0 : Int)), ((ret55v.drop ((v72 + (1 : Int))).toNat).getD (v12).toNat ((0 : Int), (0 : Int))))) n3)

def VCc67_k9 (v58 : Int) (X4 : Int × Int × (List ((Int × (Int × (Int × Int))) × Int)) → Prop) (n4 : Int) (l40201 : (List ((Int × (Int × (Int × Int))) × Int))) : Prop :=
  (InR (v58 + (1 : Int)) ∧ X4 (n4, (v58 + (1 : Int)), l40201))

def VCc67_l4 (c0 : Int) (c1 : Int) (c2 : Int) (c3 : (List (Int × LI))) (c4 : LI) (v31 : Int) (ret55v : (List (Int × Int))) (v72 : Int) (n2 : Int) (v12 : Int) (X3 : Int × Int × (List ((Int × (Int × (Int × Int))) × Int)) → Prop) (n3 : Int) (v58 : Int) (l404015 : (List ((Int × (Int × (Int × Int))) × Int))) (X4 : Int × Int × (List ((Int × (Int × (Int × Int))) × Int)) → Prop) : Prop :=
  (((decide (v58 < (c3.length : Int))) = true → (inIdx v58 c3.length ∧ (InR (((((c3.getD (v31).toNat ((0 : Int), ([] : LI))).2).drop ((v72 + (1 : Int))).toNat).getD (v12).toNat (0 : Int)) - c0) ∧ (((decide ((c3.getD (v58).toNat ((0 : Int), ([] : LI))).1 = (((((c3.getD (v31).toNat ((0 : Int), ([] : LI))).2).drop ((v72 + (1 : Int))).toNat).getD (v12).toNat (0 : Int)) - c0))) = true → VCcr100 c0 c1 c2 c3 c4 v58 (0 : Int) (((ret55v.drop ((v72 + (1 : Int))).toNat).getD (v12).toNat ((0 : Int), (0 : Int))).1) (((ret55v.drop ((v72 + (1 : Int))).toNat).getD (v12).toNat ((0 : Int), (0 : Int))).2) l404015 (fun (ret77v : Int × (List ((Int × (Int × (Int × Int))) × Int))) => VC109 n3 ret77v.1 (fun (ret78v : Int) => VCc67_k9 v58 X4 ret78v ret77v.2))) ∧ ((decide ((c3.getD (v58).toNat ((0 : Int), ([] : LI))).1 = (((((c3.getD (v31).toNat ((0 : Int), ([] : LI))).2).drop ((v72 + (1 : Int))).toNat).getD (v12).toNat (0 : Int)) - c0))) = false → VCc67_k9 v58 X4 n3 l404015))))) ∧ ((decide (v58 < (c3.length : Int))) = false → VCc67_k8 c3 v31 ret55v v72 n2 v12 X3 n3 l404015))

def VCc67_l3 (c0 : Int) (c1 : Int) (c2 : Int) (c3 : (List (Int × LI))) (c4 : LI) (R : Int → Int → Int → Int → (List ((Int × (Int × (Int × Int))) × Int)) → (LI × (List ((Int × (Int × (Int × Int))) × Int)) → Prop) → Prop) (v31 : Int) (ret55v : (List (Int × Int))) (v72 : Int) (out : LI) (i3 : Int) (X2 : Int × LI × Int × (List ((Int × (Int × (Int × Int))) × Int)) → Prop) (n2 : Int) (v12 : Int) (l404014 : (List ((Int × (Int × (Int × Int))) × Int))) (X3 : Int × Int × (List ((Int × (Int × (Int × Int))) × Int)) → Prop) : Prop :=
  (((decide (v12 < ((((c3.getD (v31).toNat ((0 : Int), ([] : LI))).2).drop ((v72 + (1 : Int))).toNat).length : Int))) = true → (inIdx v12 (((c3.getD (v31).toNat ((0 : Int), ([] : LI))).2).drop ((v72 + (1 : Int))).toNat).length ∧ (inIdx v12 (ret55v.drop ((v72 + (1 : Int))).toNat).length ∧ (((decide (((((c3.getD (v31).toNat ((0 : Int), ([] : LI))).2).drop ((v72 + (1 : Int))).toNat).getD (v12).toNat (0 : Int)) < c0)) = true → (InR (((ret55v.drop ((v72 + (1 : Int))).toNat).getD (v12).toNat ((0 : Int), (0 : Int))).1 + (1 : Int)) ∧ ((decide (((ret55v.drop ((v72 + (1 : Int))).toNat).getD (v12).toNat ((0 : Int), (0 : Int))).2 = (((ret55v.drop ((v72 + (1 : Int))).toNat).getD (v12).toNat ((0 : Int), (0 : Int))).1 + (1 : Int)))) = true → inIdx (((ret55v.drop ((v72 + (1 : Int))).toNat).getD (v12).toNat ((0 : Int), (0 : Int))).1) c4.length) ∧ ((((decide (((ret55v.drop ((v72 + (1 : Int))).toNat).getD (v12).toNat ((0 : Int), (0 : Int))).2 = (((ret55v.drop ((v72 + (1 : Int))).toNat).getD (v12).toNat ((0 : Int), (0 : Int))).1 + (1 : Int)))) && (decide ((c4.getD (((ret55v.drop ((v72 + (1 : Int))).toNat).getD (v12).toNat ((0 : Int), (0 : Int))).1).toNat (0 : Int)) = ((((c3.getD (v31).toNat ((0 : Int), ([] : LI))).2).drop ((v72 + (1 : Int))).toNat).getD (v12).toNat (0 : Int))))) = true → VCc67_k7 n2 v12 X3 (1 : Int) l404014) ∧ (((decide (((ret55v.drop ((v72 + (1 : Int))).toNat).getD (v12).toNat ((0 : Int), (0 : Int))).2 = (((ret55v.drop ((v72 + (1 : Int))).toNat).getD (v12).toNat ((0 : Int), (0 : Int))).1 + (1 : Int)))) && (decide ((c4.getD (((ret55v.drop ((v72 + (1 : Int))).toNat).getD (v12).toNat ((0 : Int), (0 : Int))).1).toNat (0 : Int)) = ((((c3.getD (v31).toNat ((0 : Int), ([] : LI))).2).drop ((v72 + (1 : Int))).toNat).getD (v12).toNat (0 : Int))))) = false → VCc67_k7 n2 v12 X3 (0 : Int) l404014)))) ∧ ((decide (((((c3.getD (v31).toNat ((0 : Int), ([] : LI))).2).drop ((v72 + (1 : Int))).toNat).getD (v12).toNat (0 : Int)) < c0)) = false → (((mget l404014 ((-1 : Int), (((((c3.getD (v31).toNat ((0 : Int), ([] : LI))).2).drop ((v72 + (1 : Int))).toNat).getD (v12).toNat (0 : Int)), ((ret55v.drop ((v72 + (1 : Int))).toNat).getD (v12).toNat ((0 : Int), (0 : Int)))))).isSome = true → VCc67_k7 n2 v12 X3 ((mget l404014 ((-1 : Int), (((((c3.getD (v31).toNat ((0 : Int), ([] : LI))).2).drop ((v72 + (1 : Int))).toNat).getD (v12).toNat (0 : Int)), ((ret55v.drop ((v72 + (1 : Int))).toNat).getD (v12).toNat ((0 : Int), (0 : Int)))))).getD (0 : Int)) l404014) ∧ ((mget l404014 ((-1 : Int), (((((c3.getD (v31).toNat ((0 : Int), ([] : LI))).2).drop ((v72 + (1 : Int))).toNat).getD (v12).toNat (0 : Int)), ((ret55v.drop ((v72 + (1 : Int))).toNat).getD (v12).toNat ((0 : Int), (0 : Int)))))).isSome = false → Loop (σ := Int × Int × (List ((Int × (Int × (Int × Int))) × Int))) (fun s X => VCc67_l4 c0 c1 c2 c3 c4 v31 ret55v v72 n2 v12 X3 s.1 s.2.1 s.2.2 X) ((0 : Int), (0 : Int), l404014)))))))) ∧ ((decide (v12 < ((((c3.getD (v31).toNat ((0 : Int), ([] : LI))).2).drop ((v72 + (1 : Int))).toNat).length : Int))) = false → VCc67_k6 c3 R v31 ret55v v72 out i3 X2 n2 l404014))

def VCc67_k10 (c3 : (List (Int × LI))) (R : Int → Int → Int → Int → (List ((Int × (Int × (Int × Int))) × Int)) → (LI × (List ((Int × (Int × (Int × Int))) × Int)) → Prop) → Prop) (v31 : Int) (ret55v : (List (Int × Int))) (v72 : Int) (out : LI) (i3 : Int) (X2 : Int × LI × Int × (List ((Int × (Int × (Int × Int))) × Int)) → Prop) (n2 : Int) (l404014 : (List ((Int × (Int × (Int × Int))) × Int))) : Prop :=
  VCc67_k5 c3 R v31 ret55v v72 out i3 X2 n2 l404014

def VCc67_k11 (n2 : Int) (v12 : Int) (X5 : Int × Int × (List ((Int × (Int × (Int × Int))) × Int)) → Prop) (v6 : Int) (l404015 : (List ((Int × (Int × (Int × Int))) × Int))) : Prop :=
  VC124 n2 v6 (fun (ret25v : Int) => (InR (v12 + (1 : Int)) ∧ X5 (ret25v, (v12 + (1 : Int)), l404015)))

def VCc67_k12 (c3 : (List (Int × LI))) (v31 : Int) (ret55v : (List (Int × Int))) (v72 : Int) (n2 : Int) (v12 : Int) (X5 : Int × Int × (List ((Int × (Int × (Int × Int))) × Int)) → Prop) (n3 : Int) (l404015 : (List ((Int × (Int × (Int × Int))) × Int))) : Prop :=
  VCc67_k11 n2 v12 X5 n3 (mset l404015 ((-1 : Int), (((((c3.getD (v31).toNat ((0 : Int), ([] : LI))).2).drop ((v72 + (1 : Int))).toNat).getD (v12).toNat (0 : Int)), ((ret55v.drop ((v72 + (1 : Int))).toNat).getD (v12).toNat ((0 : Int), (0 : Int))))) n3)

def VCc67_k13 (v58 : Int) (X6 : Int × Int × (List ((Int × (Int × (Int × Int))) × Int)) → Prop) (n4 : Int) (l40201 : (List ((Int × (Int × (Int × Int))) × Int))) : Prop :=
  (InR (v58 + (1 : Int)) ∧ X6 (n4, (v58 + (1 : Int)), l40201))

def VCc67_l6 (c0 : Int) (c1 : Int) (c2 : Int) (c3 : (List (Int × LI))) (c4 : LI) (v31 : Int) (ret55v : (List (Int × Int))) (v72 : Int) (n2 : Int) (v12 : Int) (X5 : Int × Int × (List ((Int × (Int × (Int × Int))) × Int)) → Prop) (n3 : Int) (v58 : Int) (l404015 : (List ((Int × (Int × (Int × Int))) × Int))) (X6 : Int × Int × (List ((Int × (Int × (Int × Int))) × Int)) → Prop) : Prop :=
  (((decide (v58 < (c3.length : Int))) = true → (inIdx v58 c3.length ∧ (InR (((((c3.getD (v31).toNat ((0 : Int), ([] : LI))).2).drop ((v72 + (1 : Int))).toNat).getD (v12).toNat (0 : Int)) - c0) ∧ (((decide ((c3.getD (v58).toNat ((0 : Int), ([] : LI))).1 = (((((c3.getD (v31).toNat ((0 : Int), ([] : LI))).2).drop ((v72 + (1 : Int))).toNat).getD (v12).toNat (0 : Int)) - c0))) = true → VCcr100 c0 c1 c2 c3 c4 v58 (0 : Int) (((ret55v.drop ((v72 + (1 : Int))).toNat).getD (v12).toNat ((0 : Int), (0 : Int))).1) (((ret55v.drop ((v72 + (1 : Int))).toNat).getD (v12).toNat ((0 : Int), (0 : Int))).2) l404015 (fun (ret77v : Int × (List ((Int × (Int × (Int × Int))) × Int))) => VC109 n3 ret77v.1 (fun (ret78v : Int) => VCc67_k13 v58 X6 ret78v ret77v.2))) ∧ ((decide ((c3.getD (v58).toNat ((0 : Int), ([] : LI))).1 = (((((c3.getD (v31).toNat ((0 : Int), ([] : LI))).2).drop ((v72 + (1 : Int))).toNat).getD (v12).toNat (0 : Int)) - c0))) = false → VCc67_k13 v58 X6 n3 l404015))))) ∧ ((decide (v58 < (c3.length : Int))) = false → VCc67_k12 c3 v31 ret55v v72 n2 v12 X5 n3 l404015))

def VCc67_l5 (c0 : Int) (c1 : Int) (c2 : Int) (c3 : (List (Int × LI))) (c4 : LI) (R : Int → Int → Int → Int → (List ((Int × (Int × (Int × Int))) × Int)) → (LI × (List ((Int × (Int × (Int × Int))) × Int)) → Prop) → Prop) (v31 : Int) (ret55v : (List (Int × Int))) (v72 : Int) (out : LI) (i3 : Int) (X2 : Int × LI × Int × (List ((Int × (Int × (Int × Int))) × Int)) → Prop) (n2 : Int) (v12 : Int) (l404014 : (List ((Int × (Int × (Int × Int))) × Int))) (X5 : Int × Int × (List ((Int × (Int × (Int × Int))) × Int)) → Prop) : Prop :=
  (((decide (v12 < ((((c3.getD (v31).toNat ((0 : Int), ([] : LI))).2).drop ((v72 + (1 : Int))).toNat).length : Int))) = true → (inIdx v12 (((c3.getD (v31).toNat ((0 : Int), ([] : LI))).2).drop ((v72 + (1 : Int))).toNat).length ∧ (inIdx v12 (ret55v.drop ((v72 + (1 : Int))).toNat).length ∧ (((decide (((((c3.getD (v31).toNat ((0 : Int), ([] : LI))).2).drop ((v72 + (1 : Int))).toNat).getD (v12).toNat (0 : Int)) < c0)) = true → (InR (((ret55v.drop ((v72 + (1 : Int))).toNat).getD (v12).toNat ((0 : Int), (0 : Int))).1 + (1 : Int)) ∧ ((decide (((ret55v.drop ((v72 + (1 : Int))).toNat).getD (v12).toNat ((0 : Int), (0 : Int))).2 = (((ret55v.drop ((v72 + (1 : Int))).toNat).getD (v12).toNat ((0 : Int), (0 : Int))).1 + (1 : Int)))) = true → inIdx (((ret55v.drop ((v72 + (1 : Int))).toNat).getD (v12).toNat ((0 : Int), (0 : Int))).1) c4.length) ∧ ((((decide (((ret55v.drop ((v72 + (1 : Int))).toNat).getD (v12).toNat ((0 : Int), (0 : Int))).2 = (((ret55v.drop ((v72 + (1 : Int))).toNat).getD (v12).toNat ((0 : Int), (0 : Int))).1 + (1 : Int)))) && (decide ((c4.getD (((ret55v.drop ((v72 + (1 : Int))).toNat).getD (v12).toNat ((0 : Int), (0 : Int))).1).toNat (0 : Int)) = ((((c3.getD (v31).toNat ((0 : Int), ([] : LI))).2).drop ((v72 + (1 : Int))).toNat).getD (v12).toNat (0 : Int))))) = true → VCc67_k11 n2 v12 X5 (1 : Int) l404014) ∧ (((decide (((ret55v.drop ((v72 + (1 : Int))).toNat).getD (v12).toNat ((0 : Int), (0 : Int))).2 = (((ret55v.drop ((v72 + (1 : Int))).toNat).getD (v12).toNat ((0 : Int), (0 : Int))).1 + (1 : Int)))) && (decide ((c4.getD (((ret55v.drop ((v72 + (1 : Int))).toNat).getD (v12).toNat ((0 : Int), (0 : Int))).1).toNat (0 : Int)) = ((((c3.getD (v31).toNat ((0 : Int), ([] : LI))).2).drop ((v72 + (1 : Int))).toNat).getD (v12).toNat (0 : Int))))) = false → VCc67_k11 n2 v12 X5 (0 : Int) l404014)))) ∧ ((decide (((((c3.getD (v31).toNat ((0 : Int), ([] : LI))).2).drop ((v72 + (1 : Int))).toNat).getD (v12).toNat (0 : Int)) < c0)) = false → (((mget l404014 ((-1 : Int), (((((c3.getD (v31).toNat ((0 : Int), ([] : LI))).2).drop ((v72 + (1 : Int))).toNat).getD (v12).toNat (0 : Int)), ((ret55v.drop ((v72 + (1 : Int))).toNat).getD (v12).toNat ((0 : Int), (0 : Int)))))).isSome = true → VCc67_k11 n2 v12 X5 ((mget l404014 ((-1 : Int), (((((c3.getD (v31).toNat ((0 : Int), ([] : LI))).2).drop ((v72 + (1 : Int))).toNat).getD (v12).toNat (0 : Int)), ((ret55v.drop ((v72 + (1 : Int))).toNat).getD (v12).toNat ((0 : Int), (0 : Int)))))).getD (0 : Int)) l404014) ∧ ((mget l404014 ((-1 : Int), (((((c3.getD (v31).toNat ((0 : Int), ([] : LI))).2).drop ((v72 + (1 : Int))).toNat).getD (v12).toNat (0 : Int)), ((ret55v.drop ((v72 + (1 : Int))).toNat).getD (v12).toNat ((0 : Int), (0 : Int)))))).isSome = false → Loop (σ := Int × Int × (List ((Int × (Int × (Int × Int))) × Int))) (fun s X => VCc67_l6 c0 c1 c2 c3 c4 v31 ret55v v72 n2 v12 X5 s.1 s.2.1 s.2.2 X) ((0 : Int), (0 : Int), l404014)))))))) ∧ ((decide (v12 < ((((c3.getD (v31).toNat ((0 : Int), ([] : LI))).2).drop ((v72 + (1 : Int))).toNat).length : Int))) = false → VCc67_k10 c3 R v31 ret55v v72 out i3 X2 n2 l404014))

def VCc67_l2 (c0 : Int) (c1 : Int) (c2 : Int) (c3 : (List (Int × LI))) (c4 : LI) (R : Int → Int → Int → Int → (List ((Int × (Int × (Int × Int))) × Int)) → (LI × (List ((Int × (Int × (Int × Int))) × Int)) → Prop) → Prop) (v31 : Int) (Kf : (Int × Int × LI × (List ((Int × (Int × (Int × Int))) × Int))) → Prop) (ret55v : (List (Int × Int))) (v72 : Int) (out : LI) (i3 : Int) (l404013 : (List ((Int × (Int × (Int × Int))) × Int))) (X2 : Int × LI × Int × (List ((Int × (Int × (Int × Int))) × Int)) → Prop) : Prop :=
  (((decide (v72 < (((c3.getD (v31).toNat ((0 : Int), ([] : LI))).2).length : Int))) = true → (inIdx v72 ((c3.getD (v31).toNat ((0 : Int), ([] : LI))).2).length ∧ (InR (v72 + (1 : Int)) ∧ InR (v72 + (1 : Int)) ∧ (0 ≤ (v72 + (1 : Int)) ∧ (v72 + (1 : Int)) ≤ (ret55v.length : Int)) ∧ (((0 ≤ (v72 + (1 : Int)) ∧ (v72 + (1 : Int)) ≤ (((c3.getD (v31).toNat ((0 : Int), ([] : LI))).2).length : Int)) ∧ Loop (σ := Int × Int × (List ((Int × (Int × (Int × Int))) × Int))) (fun s X => VCc67_l3 c0 c1 c2 c3 c4 R v31 ret55v v72 out i3 X2 s.1 s.2.1 s.2.2 X) ((1 : Int), (0 : Int), l404013)) ∧ ((0 ≤ (v72 + (1 : Int)) ∧ (v72 + (1 : Int)) ≤ (((c3.getD (v31).toNat ((0 : Int), ([] : LI))).2).length : Int)) ∧ Loop (σ := Int × Int × (List ((Int × (Int × (Int × Int))) × Int))) (fun s X => VCc67_l5 c0 c1 c2 c3 c4 R v31 ret55v v72 out i3 X2 s.1 s.2.1 s.2.2 X) ((1 : Int), (0 : Int), l404013)))))) ∧ ((decide (v72 < (((c3.getD (v31).toNat ((0 : Int), ([] : LI))).2).length : Int))) = false → VCc67_k4 Kf out i3 l404013))

def VCc67_k3 (c0 : Int) (c1 : Int) (c2 : Int) (c3 : (List (Int × LI))) (c4 : LI) (R : Int → Int → Int → Int → (List ((Int × (Int × (Int × Int))) × Int)) → (LI × (List ((Int × (Int × (Int × Int))) × Int)) → Prop) → Prop) (v31 : Int) (c22 : Int) (c6 : LI) (Kt : Int × LI × (List ((Int × (Int × (Int × Int))) × Int)) → Prop) (Kf : (Int × Int × LI × (List ((Int × (Int × (Int × Int))) × Int))) → Prop) (ret55v : (List (Int × Int))) (n : Int) (l404012 : (List ((Int × (Int × (Int × Int))) × Int))) : Prop :=
  (((decide (n ≤ c22)) = true → (InR (c22 - n) ∧ Kt ((c22 - n), c6, l404012))) ∧ ((decide (n ≤ c22)) = false → Loop (σ := Int × LI × Int × (List ((Int × (Int × (Int × Int))) × Int))) (fun s X => VCc67_l2 c0 c1 c2 c3 c4 R v31 Kf ret55v s.1 s.2.1 s.2.2.1 s.2.2.2 X) ((0 : Int), [v31], c22, l404012)))

def VCc67_k14 (n : Int) (v12 : Int) (X7 : Int × Int × (List ((Int × (Int × (Int × Int))) × Int)) → Prop) (v6 : Int) (l404013 : (List ((Int × (Int × (Int × Int))) × Int))) : Prop :=
  VC124 n v6 (fun (ret25v : Int) => (InR (v12 + (1 : Int)) ∧ X7 (ret25v, (v12 + (1 : Int)), l404013)))

def VCc67_k15 (c3 : (List (Int × LI))) (v31 : Int) (ret55v : (List (Int × Int))) (n : Int) (v12 : Int) (X7 : Int × Int × (List ((Int × (Int × (Int × Int))) × Int)) → Prop) (n2 : Int) (l404013 : (List ((Int × (Int × (Int × Int))) × Int))) : Prop :=
  VCc67_k14 n v12 X7 n2 (mset l404013 ((-1 : Int), ((((c3.getD (v31).toNat ((0 : Int), ([] : LI))).2).getD (v12).toNat (0 : Int)), (ret55v.getD (v12).toNat ((0 : Int), (0 : Int))))) n2)

def VCc67_k16 (v58 : Int) (X8 : Int × Int × (List ((Int × (Int × (Int × Int))) × Int)) → Prop) (n3 : Int) (l40201 : (List ((Int × (Int × (Int × Int))) × Int))) : Prop :=
  (InR (v58 + (1 : Int)) ∧ X8 (n3, (v58 + (1 : Int)), l40201))

def VCc67_l8 (c0 : Int) (c1 : Int) (c2 : Int) (c3 : (List (Int × LI))) (c4 : LI) (v31 : Int) (ret55v : (List (Int × Int))) (n : Int) (v12 : Int) (X7 : Int × Int × (List ((Int × (Int × (Int × Int))) × Int)) → Prop) (n2 : Int) (v58 : Int) (l404013 : (List ((Int × (Int × (Int × Int))) × Int))) (X8 : Int × Int × (List ((Int × (Int × (Int × Int))) × Int)) → Prop) : Prop :=
  (((decide (v58 < (c3.length : Int))) = true → (inIdx v58 c3.length ∧ (InR ((((c3.getD (v31).toNat ((0 : Int), ([] : LI))).2).getD (v12).toNat (0 : Int)) - c0) ∧ (((decide ((c3.getD (v58).toNat ((0 : Int), ([] : LI))).1 = ((((c3.getD (v31).toNat ((0 : Int), ([] : LI))).2).getD (v12).toNat (0 : Int)) - c0))) = true → VCcr100 c0 c1 c2 c3 c4 v58 (0 : Int) ((ret55v.getD (v12).toNat ((0 : Int), (0 : Int))).1) ((ret55v.getD (v12).toNat ((0 : Int), (0 : Int))).2) l404013 (fun (ret77v : Int × (List ((Int × (Int × (Int × Int))) × Int))) => VC109 n2 ret77v.1 (fun (ret78v : Int) => VCc67_k16 v58 X8 ret78v ret77v.2))) ∧ ((decide ((c3.getD (v58).toNat ((0 : Int), ([] : LI))).1 = ((((c3.getD (v31).toNat ((0 : Int), ([] : LI))).2).getD (v12).toNat (0 : Int)) - c0))) = false → VCc67_k16 v58 X8 n2 l404013))))) ∧ ((decide (v58 < (c3.length : Int))) = false → VCc67_k15 c3 v31 ret55v n v12 X7 n2 l404013))

def VCc67_l7 (c0 : Int) (c1 : Int) (c2 : Int) (c3 : (List (Int × LI))) (c4 : LI) (R : Int → Int → Int → Int → (List ((Int × (Int × (Int × Int))) × Int)) → (LI × (List ((Int × (Int × (Int × Int))) × Int)) → Prop) → Prop) (v31 : Int) (c22 : Int) (c6 : LI) (Kt : Int × LI × (List ((Int × (Int × (Int × Int))) × Int)) → Prop) (Kf : (Int × Int × LI × (List ((Int × (Int × (Int × Int))) × Int))) → Prop) (ret55v : (List (Int × Int))) (n : Int) (v12 : Int) (l404012 : (List ((Int × (Int × (Int × Int))) × Int))) (X7 : Int × Int × (List ((Int × (Int × (Int × Int))) × Int)) → Prop) : Prop :=
  (((decide (v12 < (((c3.getD (v31).toNat ((0 : Int), ([] : LI))).2).length : Int))) = true → (inIdx v12 ((c3.getD (v31).toNat ((0 : Int), ([] : LI))).2).length ∧ (inIdx v12 ret55v.length ∧ (((decide ((((c3.getD (v31).toNat ((0 : Int), ([] : LI))).2).getD (v12).toNat (0 : Int)) < c0)) = true → (InR ((ret55v.getD (v12).toNat ((0 : Int), (0 : Int))).1 + (1 : Int)) ∧ ((decide ((ret55v.getD (v12).toNat ((0 : Int), (0 : Int))).2 = ((ret55v.getD (v12).toNat ((0 : Int), (0 : Int))).1 + (1 : Int)))) = true → inIdx ((ret55v.getD (v12).toNat ((0 : Int), (0 : Int))).1) c4.length) ∧ ((((decide ((ret55v.getD (v12).toNat ((0 : Int), (0 : Int))).2 = ((ret55v.getD (v12).toNat ((0 : Int), (0 : Int))).1 + (1 : Int)))) && (decide ((c4.getD ((ret55v.getD (v12).toNat ((0 : Int), (0 : Int))).1).toNat (0 : Int)) = (((c3.getD (v31).toNat ((0 : Int), ([] : LI))).2).getD (v12).toNat (0 : Int))))) = true → VCc67_k14 n v12 X7 (1 : Int) l404012) ∧ (((decide ((ret55v.getD (v12).toNat ((0 : Int), (0 : Int))).2 = ((ret55v.getD (v12).toNat ((0 : Int), (0 : Int))).1 + (1 : Int)))) && (decide ((c4.getD ((ret55v.getD (v12).toNat ((0 : Int), (0 : Int))).1).toNat (0 : Int)) = (((c3.getD (v31).toNat ((0 : Int), ([] : LI))).2).getD (v12).toNat (0 : Int))))) = false → VCc67_k14 n v12 X7 (0 : Int) l404012)))) ∧ ((decide ((((c3.getD (v31).toNat ((0 : Int), ([] : LI))).2).getD (v12).toNat (0 : Int)) < c0)) = false → (((mget l404012 ((-1 : Int), ((((c3.getD (v31).toNat ((0 : Int), ([] : LI))).2).getD (v12).toNat (0 : Int)), (ret55v.getD (v12).toNat ((0 : Int), (0 : Int)))))).isSome = true → VCc67_k14 n v12 X7 ((mget l404012 ((-1 : Int), ((((c3.getD (v31).toNat ((0 : Int), ([] : LI))).2).getD (v12).toNat (0 : Int)), (ret55v.getD (v12).toNat ((0 : Int), (0 : Int)))))).getD (0 : Int)) l404012) ∧ ((mget l404012 ((-1 : Int), ((((c3.getD (v31).toNat ((0 : Int), ([] : LI))).2).getD (v12).toNat (0 : Int)), (ret55v.getD (v12).toNat ((0 : Int), (0 : Int)))))).isSome = false → Loop (σ := Int × Int × (List ((Int × (Int × (Int × Int))) × Int))) (fun s X => VCc67_l8 c0 c1 c2 c3 c4 v31 ret55v n v12 X7 s.1 s.2.1 s.2.2 X) ((0 : Int), (0 : Int), l404012)))))))) ∧ ((decide (v12 < (((c3.getD (v31).toNat ((0 : Int), ([] : LI))).2).length : Int))) = false → VCc67_k3 c0 c1 c2 c3 c4 R v31 c22 c6 Kt Kf ret55v n l404012))

def VCc67_y1 (c0 : Int) (c1 : Int) (c2 : Int) (c3 : (List (Int × LI))) (c4 : LI) (R : Int → Int → Int → Int → (List ((Int × (Int × (Int × Int))) × Int)) → (LI × (List ((Int × (Int × (Int × Int))) × Int)) → Prop) → Prop) (sign : Int) (v31 : Int) (a51 : LI) (c22 : Int) (c6 : LI) (c122 : (List ((Int × (Int × (Int × Int))) × Int))) (Kt : Int × LI × (List ((Int × (Int × (Int × Int))) × Int)) → Prop) (Kf : (Int × Int × LI × (List ((Int × (Int × (Int × Int))) × Int))) → Prop) : Prop :=
  VC97 sign a51 (fun (ret55v : (List (Int × Int))) => Loop (σ := Int × Int × (List ((Int × (Int × (Int × Int))) × Int))) (fun s X => VCc67_l7 c0 c1 c2 c3 c4 R v31 c22 c6 Kt Kf ret55v s.1 s.2.1 s.2.2 X) ((1 : Int), (0 : Int), c122))

def VCc67_l1 (c0 : Int) (c1 : Int) (c2 : Int) (c3 : (List (Int × LI))) (c4 : LI) (R : Int → Int → Int → Int → (List ((Int × (Int × (Int × Int))) × Int)) → (LI × (List ((Int × (Int × (Int × Int))) × Int)) → Prop) → Prop) (c : Int) (sign : Int) (over : Int) (K : LI × (List ((Int × (Int × (Int × Int))) × Int)) → Prop) (v31 : Int) (i2 : Int) (l6160 : LI) (l40401 : (List ((Int × (Int × (Int × Int))) × Int))) (X1 : Int × Int × LI × (List ((Int × (Int × (Int × Int))) × Int)) → Prop) : Prop :=
  (((decide (v31 < (c3.length : Int))) = true → (inIdx v31 c3.length ∧ (InR (c - c0) ∧ (((!decide ((c3.getD (v31).toNat ((0 : Int), ([] : LI))).1 = (c - c0))) = true → VCc67_k2 v31 X1 i2 l6160 l40401) ∧ ((!decide ((c3.getD (v31).toNat ((0 : Int), ([] : LI))).1 = (c - c0))) = false → VCcr122y4 (((c3.getD (v31).toNat ((0 : Int), ([] : LI))).2).length : Int) (sign, over) c0 c1 c2 c3 c4 sign over v31 ((c3.getD (v31).toNat ((0 : Int), ([] : LI))).1) ((c3.getD (v31).toNat ((0 : Int), ([] : LI))).2) (VCc67_y1 c0 c1 c2 c3 c4 R sign v31) ([] : List Int) (0 : Int) l40401 i2 l6160 (fun (ret7v : Bool × Int × (List ((Int × (Int × (Int × Int))) × Int)) × Int × LI) => ((decide (ret7v.2.1 = (0 : Int)) = true → VCc67_k2 v31 X1 ret7v.2.2.2.1 ret7v.2.2.2.2 ret7v.2.2.1) ∧ (decide (ret7v.2.1 = (0 : Int)) = false → (ret7v.2.1 = (1 : Int) ∧ K (ret7v.2.2.2.2, ret7v.2.2.1)))))))))) ∧ ((decide (v31 < (c3.length : Int))) = false → VCc67_k1 K l6160 l40401))

def VCc67 (c0 : Int) (c1 : Int) (c2 : Int) (c3 : (List (Int × LI))) (c4 : LI) (R : Int → Int → Int → Int → (List ((Int × (Int × (Int × Int))) × Int)) → (LI × (List ((Int × (Int × (Int × Int))) × Int)) → Prop) → Prop) (c : Int) (sign : Int) (over : Int) (i : Int) (c5 : (List ((Int × (Int × (Int × Int))) × Int))) (K : LI × (List ((Int × (Int × (Int × Int))) × Int)) → Prop) : Prop :=
  (((decide (c < c0)) = true → K (([] : List Int), c5)) ∧ ((decide (c < c0)) = false → Loop (σ := Int × Int × LI × (List ((Int × (Int × (Int × Int))) × Int))) (fun s X => VCc67_l1 c0 c1 c2 c3 c4 R c sign over K s.1 s.2.1 s.2.2.1 s.2.2.2 X) ((0 : Int), i, ([] : List Int), c5)))

set_option maxHeartbeats 4000000 in
theorem linkc67 (c0 : Int) (c1 : Int) (c2 : Int) (c3 : (List (Int × LI))) (c4 : LI) (R : Int → Int → Int → Int → (List ((Int × (Int × (Int × Int))) × Int)) → (LI × (List ((Int × (Int × (Int × Int))) × Int)) → Prop) → Prop) (hR : ∀ (c : Int) (sign : Int) (over : Int) (i : Int) (c5 : (List ((Int × (Int × (Int × Int))) × Int))) (K : LI × (List ((Int × (Int × (Int × Int))) × Int)) → Prop), R c sign over i c5 K → LCalls Try.prog 67 [40400, 40401] [40400] [hB 40400 [.pI c0, .pI c1, .pI c2, .p (.sl (.pr (.int .i64) (.sl (.int .i64)))) c3, .pS c4, .own 40401], (40401, [], .dict (.pr (.int .i64) t3) (.int .i64) c5)] [.c (.ptr 40400 0), .c (.pI c), .agg [.pI sign, .pI over], .c (.pI i)] (fun av hp' => ∃ y : LI × (List ((Int × (Int × (Int × Int))) × Int)), av = .v (.c (.pS y.1)) ∧ hp' = [hB 40400 [.pI c0, .pI c1, .pI c2, .p (.sl (.pr (.int .i64) (.sl (.int .i64)))) c3, .pS c4, .own 40401], (40401, [], .dict (.pr (.int .i64) t3) (.int .i64) y.2)] ∧ K y)) (c : Int) (sign : Int) (over : Int) (i : Int) (c5 : (List ((Int × (Int × (Int × Int))) × Int))) (K : LI × (List ((Int × (Int × (Int × Int))) × Int)) → Prop) (h : VCc67 c0 c1 c2 c3 c4 R c sign over i c5 K) : LCalls Try.prog 67 [40400, 40401] [40400] [hB 40400 [.pI c0, .pI c1, .pI c2, .p (.sl (.pr (.int .i64) (.sl (.int .i64)))) c3, .pS c4, .own 40401], (40401, [], .dict (.pr (.int .i64) t3) (.int .i64) c5)] [.c (.ptr 40400 0), .c (.pI c), .agg [.pI sign, .pI over], .c (.pI i)] (fun av hp' => ∃ y : LI × (List ((Int × (Int × (Int × Int))) × Int)), av = .v (.c (.pS y.1)) ∧ hp' = [hB 40400 [.pI c0, .pI c1, .pI c2, .p (.sl (.pr (.int .i64) (.sl (.int .i64)))) c3, .pS c4, .own 40401], (40401, [], .dict (.pr (.int .i64) t3) (.int .i64) y.2)] ∧ K y) := by
 refine lcalls_of_aw [40400, 40401] [40400] [.c 8 25] Try.func67 rfl rfl (by kernel_rfl) (by kernel_rfl) (by kernel_rfl) ?_
 refine aw_conv [] (st' := (⟨106, [e33b61, sI 1 c, sA 2 [.pI sign, .pI over], sI 3 i, e33b116], [e33b1 c0 c1 c2 c3 c4, e33b97 c5]⟩ : St)) (by kernel_rfl) ?_
 unfold VCc67 at h
 refine sr ?_
 refine rq 4 (ob := (Ts 4 True)) (st' := (⟨106, [sI 1 c, sp 4 4, sp 6 6, sp 7 7, sp 8 8, e33b116], [e33b120, e33b111 sign over, hB 7 [.pI i], hB 8 [.nils], e33b1 c0 c1 c2 c3 c4, e33b97 c5]⟩ : St)) (by kernel_rfl) (tsI 4 trivial) ?_
 refine nn ?_
 refine aw_seq ?_
 refine sr ?_
 refine rq 7 (ob := (Ts 7 True)) (st' := (⟨106, [sI 1 c, sp 4 4, sp 6 6, sp 7 7, sp 8 8, sB 24 (decide (c < c0)), e33b116], [e33b120, e33b111 sign over, hB 7 [.pI i], hB 8 [.nils], e33b1 c0 c1 c2 c3 c4, e33b97 c5]⟩ : St)) (by kernel_rfl) (tsI 7 trivial) ?_
 refine nn ?_
 refine aw_cond (b := (decide (c < c0))) (by kernel_rfl) (fun hb => ?_) (fun hb => ?_)
 ·have h := h.1 hb
  refine sr ?_
  refine rq 1 (ob := (Ts 1 True)) (st' := (⟨106, [sp 8 8, e33b116], [hB 8 [.nils], e33b1 c0 c1 c2 c3 c4, e33b97 c5]⟩ : St)) (by kernel_rfl) (tsI 1 trivial) ?_
  refine nn ?_
  refine aw_conv [.nilPB 8 0 (.int .i64), .prune [8, 106] [40400, 40401, 8]] (st' := (⟨106, [sp 8 8, e33b116], [e33b1 c0 c1 c2 c3 c4, e33b97 c5, hB 8 [.pS ([] : List Int)]]⟩ : St)) (by kernel_rfl) ?_
  refine aw_ret ?_
  refine thenQ_r ?_
  exact lret_r (σ := LI × (List ((Int × (Int × (Int × Int))) × Int))) (A := fun y => .v (.c (.pS y.1))) (H := fun y => [hB 40400 [.pI c0, .pI c1, .pI c2, .p (.sl (.pr (.int .i64) (.sl (.int .i64)))) c3, .pS c4, .own 40401], (40401, [], .dict (.pr (.int .i64) t3) (.int .i64) y.2)]) (ob := True) (([] : List Int), c5) (by kernel_rfl) trivial rfl (by kernel_rfl) (by kernel_rfl) (by kernel_rfl) h
 ·have h := h.2 hb
  refine aw_skip ?_
  refine thenQ_n ?_
  refine aw_seq ?_
  refine sr ?_
  refine rq 7 (ob := (Ts 7 True)) (st' := (⟨106, [sI 1 c, sp 4 4, sp 6 6, sp 7 7, sp 8 8, e33b64 c3, e33b112 c3, sI 31 (0 : Int), e33b116], [e33b120, e33b111 sign over, hB 7 [.pI i], hB 8 [.nils], e33b1 c0 c1 c2 c3 c4, e33b97 c5]⟩ : St)) (by kernel_rfl) (tsI 7 trivial) ?_
  refine nn ?_
  refine withJoin (σ := LI × (List ((Int × (Int × (Int × Int))) × Int))) (fun s => (⟨106, [sp 8 8, e33b116], [e33b126, hA 6160 3 (.int .i64) s.1, e33b1 c0 c1 c2 c3 c4, (40401, [], .dict (.pr (.int .i64) t3) (.int .i64) s.2)]⟩ : St)) (fun s => VCc67_k1 K s.1 s.2) (fun s h => ?_) (fun rest1 => ?_)
  ·obtain ⟨l6160, l40401⟩ := s
   have h : VCc67_k1 K l6160 l40401 := h
   unfold VCc67_k1 at h
   refine thenQ_n ?_
   refine sr ?_
   refine rq 1 (ob := (Ts 1 True)) (st' := (⟨106, [sp 8 8, e33b116], [hB 8 [.nils], e33b1 c0 c1 c2 c3 c4, e33b43 l40401]⟩ : St)) (by kernel_rfl) (tsI 1 trivial) ?_
   refine nn ?_
   refine aw_conv [.nilPB 8 0 (.int .i64), .prune [8, 106] [40400, 40401, 8]] (st' := (⟨106, [sp 8 8, e33b116], [e33b1 c0 c1 c2 c3 c4, e33b43 l40401, hB 8 [.pS ([] : List Int)]]⟩ : St)) (by kernel_rfl) ?_
   refine aw_ret ?_
   exact lret_r (σ := LI × (List ((Int × (Int × (Int × Int))) × Int))) (A := fun y => .v (.c (.pS y.1))) (H := fun y => [hB 40400 [.pI c0, .pI c1, .pI c2, .p (.sl (.pr (.int .i64) (.sl (.int .i64)))) c3, .pS c4, .own 40401], (40401, [], .dict (.pr (.int .i64) t3) (.int .i64) y.2)]) (ob := True) (([] : List Int), l40401) (by kernel_rfl) trivial rfl (by kernel_rfl) (by kernel_rfl) (by kernel_rfl) h
  ·refine aw_block ?_
   refine aw_conv [.nilOwnB 8 0 6160 3 (.int .i64), .prune [1, 4, 6, 7, 8, 29, 30, 31, 106] [4, 6, 7, 8, 6160, 40400, 40401]] (st' := (⟨106, [sI 1 c, sp 4 4, sp 6 6, sp 7 7, sp 8 8, e33b64 c3, e33b112 c3, sI 31 (0 : Int), e33b116], [e33b120, e33b111 sign over, hB 7 [.pI i], e33b126, hA 6160 3 (.int .i64) ([] : List Int), e33b1 c0 c1 c2 c3 c4, e33b97 c5]⟩ : St)) (by kernel_rfl) ?_
   refine aw_loop (σ := Int × Int × LI × (List ((Int × (Int × (Int × Int))) × Int))) (fun s => (⟨106, [sI 1 c, sp 4 4, sp 6 6, sp 7 7, sp 8 8, e33b64 c3, e33b112 c3, sI 31 s.1, e33b116], [e33b120, e33b111 sign over, hB 7 [.pI s.2.1], e33b126, hA 6160 3 (.int .i64) s.2.2.1, e33b1 c0 c1 c2 c3 c4, (40401, [], .dict (.pr (.int .i64) t3) (.int .i64) s.2.2.2)]⟩ : St)) (fun s X => VCc67_l1 c0 c1 c2 c3 c4 R c sign over K s.1 s.2.1 s.2.2.1 s.2.2.2 X) (s0 := ((0 : Int), i, ([] : List Int), c5)) (fun s X1 h => ?_) h
   obtain ⟨v31, i2, l6160, l40401⟩ := s
   have h : VCc67_l1 c0 c1 c2 c3 c4 R c sign over K v31 i2 l6160 l40401 X1 := h
   unfold VCc67_l1 at h
   refine sr ?_
   refine rq 1 (ob := (Ts 1 True)) (st' := (⟨106, [sI 1 c, sp 4 4, sp 6 6, sp 7 7, sp 8 8, e33b64 c3, e33b112 c3, sI 31 v31, sB 32 (decide (v31 < (c3.length : Int))), e33b116], [e33b120, e33b111 sign over, hB 7 [.pI i2], e33b126, e33b130 l6160, e33b1 c0 c1 c2 c3 c4, e33b43 l40401]⟩ : St)) (by kernel_rfl) (tsI 1 trivial) ?_
   refine nn ?_
   refine aw_seq ?_
   refine aw_cond (b := (decide (v31 < (c3.length : Int)))) (by kernel_rfl) (fun hb => ?_) (fun hb => ?_)
   ·have h := h.1 hb
    refine aw_skip ?_
    refine thenQ_n ?_
    refine aw_seq ?_
    refine withJoin (σ := Int × LI × (List ((Int × (Int × (Int × Int))) × Int))) (fun s => (⟨106, [sI 1 c, sp 4 4, sp 6 6, sp 7 7, sp 8 8, e33b64 c3, e33b112 c3, sI 31 v31, e33b116], [e33b120, e33b111 sign over, hB 7 [.pI s.1], e33b126, hA 6160 3 (.int .i64) s.2.1, e33b1 c0 c1 c2 c3 c4, (40401, [], .dict (.pr (.int .i64) t3) (.int .i64) s.2.2)]⟩ : St)) (fun s => VCc67_k2 v31 X1 s.1 s.2.1 s.2.2) (fun s h => ?_) (fun rest2 => ?_)
    ·obtain ⟨i3, l61602, l404012⟩ := s
     have h : VCc67_k2 v31 X1 i3 l61602 l404012 := h
     unfold VCc67_k2 at h
     refine thenQ_n ?_
     refine aw_region ?_
     obtain ⟨o1, h⟩ := h
     refine rq 2 (ob := (InR (v31 + (1 : Int)) ∧ Ts 1 True)) (st' := (⟨106, [sI 1 c, sp 4 4, sp 6 6, sp 7 7, sp 8 8, e33b64 c3, e33b112 c3, sI 31 (v31 + (1 : Int)), e33b116], [e33b120, e33b111 sign over, hB 7 [.pI i3], e33b126, hA 6160 3 (.int .i64) l61602, e33b1 c0 c1 c2 c3 c4, e33b39 l404012]⟩ : St)) (by kernel_rfl) (⟨o1, tsI 1 trivial⟩) ?_
     refine awl_nil ?_
     exact thenQ_n ⟨((v31 + (1 : Int)), i3, l61602, l404012), rfl, h⟩
    ·refine aw_block ?_
     refine sr ?_
     obtain ⟨o1, h⟩ := h
     refine rq 7 (ob := (Ts 1 (inIdx v31 c3.length ∧ Ts 5 True))) (st' := (⟨106, [sI 1 c, sp 4 4, sp 6 6, sp 7 7, sp 8 8, sp 9 9, sp 10 10, e33b64 c3, e33b112 c3, sI 31 v31, e33b116], [e33b120, e33b111 sign over, hB 7 [.pI i2], e33b126, hB 9 [.pI v31], e33b107 c3 v31, e33b130 l6160, e33b1 c0 c1 c2 c3 c4, e33b43 l40401]⟩ : St)) (by kernel_rfl) (tsI 1 ⟨o1, tsI 5 trivial⟩) ?_
     refine nn ?_
     refine aw_seq ?_
     refine aw_seq ?_
     refine awd_begin [] (by kernel_rfl) ?_
     obtain ⟨o1, h⟩ := h
     refine drq (by kernel_rfl) [0, 1, 2, 3, 4, 5, 6, 7, 8, 9] (ob := (Ts 8 (InR (c - c0) ∧ Ts 1 True))) (done' := [9, 8, 7, 6, 5, 4, 3, 2, 1, 0]) (st' := (⟨106, [sI 1 c, sp 4 4, sp 6 6, sp 7 7, sp 8 8, sp 9 9, sp 10 10, e33b64 c3, e33b112 c3, sI 31 v31, sB 45 (!decide ((c3.getD (v31).toNat ((0 : Int), ([] : LI))).1 = (c - c0))), e33b116], [e33b120, e33b111 sign over, hB 7 [.pI i2], e33b126, hB 9 [.pI v31], e33b107 c3 v31, e33b130 l6160, e33b1 c0 c1 c2 c3 c4, e33b43 l40401]⟩ : St)) (by kernel_rfl) (tsI 8 ⟨o1, tsI 1 trivial⟩) ?_
     refine awd_done (by kernel_rfl) ?_
     refine thenQ_n ?_
     refine aw_cond (b := (!decide ((c3.getD (v31).toNat ((0 : Int), ([] : LI))).1 = (c - c0)))) (by kernel_rfl) (fun hb => ?_) (fun hb => ?_)
     ·have h := h.1 hb
      refine cpr (st' := (⟨106, [sI 1 c, sp 4 4, sp 6 6, sp 7 7, sp 8 8, e33b64 c3, e33b112 c3, sI 31 v31, e33b116], [e33b120, e33b111 sign over, hB 7 [.pI i2], e33b126, e33b130 l6160, e33b1 c0 c1 c2 c3 c4, e33b43 l40401]⟩ : St)) (by kernel_rfl) ?_
      refine aw_exit ?_
      refine thenQ_x ?_
      refine blockQ_hit ?_
      exact rest2 (i2, l6160, l40401) h
     ·have h := h.2 hb
      refine aw_skip ?_
      refine thenQ_n ?_
      refine sr ?_
      refine rq 4 (ob := (Ts 4 True)) (st' := (⟨106, [sI 1 c, sp 4 4, sp 6 6, sp 7 7, sp 8 8, sp 9 9, sp 10 10, e33b64 c3, e33b112 c3, sI 31 v31, sI 48 (((c3.getD (v31).toNat ((0 : Int), ([] : LI))).2).length : Int), sA 49 [.pI sign, .pI over], e33b116], [e33b120, e33b111 sign over, hB 7 [.pI i2], e33b126, hB 9 [.pI v31], e33b107 c3 v31, e33b130 l6160, e33b1 c0 c1 c2 c3 c4, e33b43 l40401]⟩ : St)) (by kernel_rfl) (tsI 4 trivial) ?_
      refine awl_conv [.ren 4 30000, .ren 6 30001, .ren 7 30002, .ren 8 30003, .ren 9 30004, .ren 10 30005, .ren 6160 30006] (st' := (⟨106, [sI 1 c, e33b101, sp 6 30001, e33b102, e33b95, sp 9 30004, e33b94, e33b64 c3, e33b112 c3, sI 31 v31, sI 48 (((c3.getD (v31).toNat ((0 : Int), ([] : LI))).2).length : Int), sA 49 [.pI sign, .pI over], e33b116], [e33b15, e33b6 sign over, e33b125 i2, e33b14, e33b17 v31, e33b0 c3 v31, e33b109 l6160, e33b1 c0 c1 c2 c3 c4, e33b43 l40401]⟩ : St)) (by kernel_rfl) ?_
      refine awl_inlr [.t 4] [30000, 30001, 30002, 30003, 30004, 30005, 30006, 40400, 40401] [.c (.pI (((c3.getD (v31).toNat ((0 : Int), ([] : LI))).2).length : Int)), .agg [.pI sign, .pI over]] [] rfl rfl (by kernel_rfl) rfl (by kernel_rfl) Try.call96 (by kernel_rfl) (by kernel_rfl) Try.func96 rfl rfl (by kernel_rfl) ?_
      refine aw_conv [] (st' := (⟨6, [sI 0 (((c3.getD (v31).toNat ((0 : Int), ([] : LI))).2).length : Int), sA 1 [.pI sign, .pI over], sI 7 c, sp 10 30000, sp 12 30001, sp 13 30002, sp 14 30003, sp 15 30004, sp 16 30005, e33b124 c3, sI 36 (c3.length : Int), sI 37 v31, sI 54 (((c3.getD (v31).toNat ((0 : Int), ([] : LI))).2).length : Int), sA 55 [.pI sign, .pI over], e33b81], [e33b15, e33b6 sign over, e33b125 i2, e33b14, e33b17 v31, e33b0 c3 v31, e33b109 l6160, e33b1 c0 c1 c2 c3 c4, e33b43 l40401]⟩ : St)) (by kernel_rfl) ?_
      refine sr ?_
      refine rq 3 (ob := (Ts 3 True)) (st' := (⟨6, [sp 2 2, sp 3 3, sI 7 c, sp 10 30000, sp 12 30001, sp 13 30002, sp 14 30003, sp 15 30004, sp 16 30005, e33b124 c3, sI 36 (c3.length : Int), sI 37 v31, e33b81], [hB 2 [.pI (((c3.getD (v31).toNat ((0 : Int), ([] : LI))).2).length : Int)], hB 3 [.pI sign, .pI over], e33b15, e33b6 sign over, e33b125 i2, e33b14, e33b17 v31, e33b0 c3 v31, e33b109 l6160, e33b1 c0 c1 c2 c3 c4, e33b43 l40401]⟩ : St)) (by kernel_rfl) (tsI 3 trivial) ?_
      refine nsr ?_
      refine awl_conv [.freezeB 2 (.int .i64), .freezeB 3 (.pr (.int .i64) (.int .i64))] (st' := (⟨6, [s1 2 (.ad (.int .i64) (((c3.getD (v31).toNat ((0 : Int), ([] : LI))).2).length : Int)), s1 3 (.ad (.pr (.int .i64) (.int .i64)) (sign, over)), sI 7 c, sp 10 30000, sp 12 30001, sp 13 30002, sp 14 30003, sp 15 30004, sp 16 30005, e33b124 c3, sI 36 (c3.length : Int), sI 37 v31, e33b81], [e33b15, e33b6 sign over, e33b125 i2, e33b14, e33b17 v31, e33b0 c3 v31, e33b109 l6160, e33b1 c0 c1 c2 c3 c4, e33b43 l40401]⟩ : St)) (by kernel_rfl) ?_
      refine rq 2 (ob := (Ts 2 True)) (st' := (⟨6, [s1 4 (.fn 121 [(⟨(.int .i64), (((c3.getD (v31).toNat ((0 : Int), ([] : LI))).2).length : Int)⟩ : Dat), (⟨(.pr (.int .i64) (.int .i64)), (sign, over)⟩ : Dat)]), sI 7 c, sp 10 30000, sp 12 30001, sp 13 30002, sp 14 30003, sp 15 30004, sp 16 30005, e33b124 c3, sI 36 (c3.length : Int), sI 37 v31, e33b81], [e33b15, e33b6 sign over, e33b125 i2, e33b14, e33b17 v31, e33b0 c3 v31, e33b109 l6160, e33b1 c0 c1 c2 c3 c4, e33b43 l40401]⟩ : St)) (by kernel_rfl) (tsI 2 trivial) ?_
      refine nn ?_
      refine aw_ret ?_
      refine inlR_r (ob := True) (.v (.c (.fn 121 [(⟨(.int .i64), (((c3.getD (v31).toNat ((0 : Int), ([] : LI))).2).length : Int)⟩ : Dat), (⟨(.pr (.int .i64) (.int .i64)), (sign, over)⟩ : Dat)]))) (by kernel_rfl) trivial rfl ?_
      refine lpr (st' := (⟨106, [sI 1 c, e33b101, sp 6 30001, e33b102, e33b95, sp 9 30004, e33b94, e33b64 c3, e33b112 c3, sI 31 v31, s1 50 (.fn 121 [(⟨(.int .i64), (((c3.getD (v31).toNat ((0 : Int), ([] : LI))).2).length : Int)⟩ : Dat), (⟨(.pr (.int .i64) (.int .i64)), (sign, over)⟩ : Dat)]), e33b116], [e33b15, e33b6 sign over, e33b125 i2, e33b14, e33b17 v31, e33b0 c3 v31, e33b109 l6160, e33b1 c0 c1 c2 c3 c4, e33b43 l40401]⟩ : St)) (by kernel_rfl) ?_
      refine nn ?_
      refine aw_block ?_
      refine aw_cq ?_
      refine aw_rangeFunc 37100 90100 [4, 6, 7, 8, 9, 10] [37100, 30000, 30001, 30002, 30003, 30004, 30005, 30006, 40400, 40401] [.c (.ad (.int .i64) (((c3.getD (v31).toNat ((0 : Int), ([] : LI))).2).length : Int)), .c (.ad (.pr (.int .i64) (.int .i64)) (sign, over))] (by kernel_rfl) Try.call121 Try.func121 rfl rfl (by kernel_rfl) (fun _ => by kernel_rfl) (fun lr1 hps has hbd hnn => ?_)
      have hY1 : ∀ (a51 : LI) (c22 : Int) (c6 : LI) (c122 : (List ((Int × (Int × (Int × Int))) × Int))) (Kt : Int × LI × (List ((Int × (Int × (Int × Int))) × Int)) → Prop) (Kf : (Int × Int × LI × (List ((Int × (Int × (Int × Int))) × Int))) → Prop) (h : VCc67_y1 c0 c1 c2 c3 c4 R sign v31 a51 c22 c6 c122 Kt Kf), LYCalls Try.prog 37100 [37100, 30000, 30001, 30002, 30003, 30004, 30005, 30006, 40400, 40401] [37100, 30000, 30001, 30002, 30003, 30004, 30005, 40400] [(37100, [], .lp lr1 (0 : Int) (VCc67_s1 30000 30001 30002 30003 30004 30005 c)), hB 30000 [.ptr 40400 0], hB 30001 [.pI sign, .pI over], hB 30002 [.pI c22], hB 30003 [.own 30006], hB 30004 [.pI v31], hB 30005 [.pI ((c3.getD (v31).toNat ((0 : Int), ([] : LI))).1), .pS ((c3.getD (v31).toNat ((0 : Int), ([] : LI))).2)], hA 30006 3 (.int .i64) c6, hB 40400 [.pI c0, .pI c1, .pI c2, .p (.sl (.pr (.int .i64) (.sl (.int .i64)))) c3, .pS c4, .own 40401], (40401, [], .dict (.pr (.int .i64) t3) (.int .i64) c122)] [.c (.pS a51)] (fun av hp' => (∃ y : Int × LI × (List ((Int × (Int × (Int × Int))) × Int)), av = .v (.c (.p .bool true)) ∧ hp' = [(37100, [], .lp lr1 (0 : Int) (VCc67_s1 30000 30001 30002 30003 30004 30005 c)), hB 30000 [.ptr 40400 0], hB 30001 [.pI sign, .pI over], hB 30002 [.pI y.1], hB 30003 [.own 30006], hB 30004 [.pI v31], hB 30005 [.pI ((c3.getD (v31).toNat ((0 : Int), ([] : LI))).1), .pS ((c3.getD (v31).toNat ((0 : Int), ([] : LI))).2)], hA 30006 3 (.int .i64) y.2.1, hB 40400 [.pI c0, .pI c1, .pI c2, .p (.sl (.pr (.int .i64) (.sl (.int .i64)))) c3, .pS c4, .own 40401], (40401, [], .dict (.pr (.int .i64) t3) (.int .i64) y.2.2)] ∧ Kt y) ∨ (∃ y : Int × Int × LI × (List ((Int × (Int × (Int × Int))) × Int)), av = .v (.c (.p .bool false)) ∧ hp' = [(37100, [], .lp lr1 y.1 (VCc67_s1 30000 30001 30002 30003 30004 30005 c)), hB 30000 [.ptr 40400 0], hB 30001 [.pI sign, .pI over], hB 30002 [.pI y.2.1], hB 30003 [.own 30006], hB 30004 [.pI v31], hB 30005 [.pI ((c3.getD (v31).toNat ((0 : Int), ([] : LI))).1), .pS ((c3.getD (v31).toNat ((0 : Int), ([] : LI))).2)], hA 30006 3 (.int .i64) y.2.2.1, hB 40400 [.pI c0, .pI c1, .pI c2, .p (.sl (.pr (.int .i64) (.sl (.int .i64)))) c3, .pS c4, .own 40401], (40401, [], .dict (.pr (.int .i64) t3) (.int .i64) y.2.2.2)] ∧ Kf y)) := by
       intro a51 c22 c6 c122 Kt Kf h
       refine lyield_of_aw (sl := VCc67_s1 30000 30001 30002 30003 30004 30005 c) (hp1 := [hB 30000 [.ptr 40400 0], hB 30001 [.pI sign, .pI over], hB 30002 [.pI c22], hB 30003 [.own 30006], hB 30004 [.pI v31], hB 30005 [.pI ((c3.getD (v31).toNat ((0 : Int), ([] : LI))).1), .pS ((c3.getD (v31).toNat ((0 : Int), ([] : LI))).2)], hA 30006 3 (.int .i64) c6, hB 40400 [.pI c0, .pI c1, .pI c2, .p (.sl (.pr (.int .i64) (.sl (.int .i64)))) c3, .pS c4, .own 40401], (40401, [], .dict (.pr (.int .i64) t3) (.int .i64) c122)]) [37100, 30000, 30001, 30002, 30003, 30004, 30005, 30006, 40400, 40401] [37100, 30000, 30001, 30002, 30003, 30004, 30005, 40400] [30000, 30001, 30002, 30003, 30004, 30005, 30006, 40400, 40401] [30000, 30001, 30002, 30003, 30004, 30005, 40400] hps has hbd hnn (by kernel_rfl) (by kernel_rfl) (by decide) (by kernel_rfl) (by kernel_rfl) (by kernel_rfl) (by kernel_rfl) ?_
       refine aw_conv [] (st' := (⟨106, [s1 51 (.pS a51), e33b101, sp 6 30001, e33b102, e33b95, sp 9 30004, e33b94, e33b86, e33b87, e33b88, e33b89, e33b90, e33b91, e33b81], [e33b15, e33b6 sign over, e33b56 c22, e33b14, e33b17 v31, e33b0 c3 v31, e33b13 c6, e33b1 c0 c1 c2 c3 c4, e33b69 c122]⟩ : St)) (by kernel_rfl) ?_
       unfold VCc67_y1 at h
       refine aw_region ?_
       refine rq 1 (ob := (Ts 1 True)) (st' := (⟨106, [e33b101, sp 6 30001, e33b102, e33b95, sp 9 30004, e33b94, s1 11 (.pS a51), e33b86, e33b87, e33b88, e33b89, e33b90, e33b91, e33b81], [e33b15, e33b6 sign over, e33b56 c22, e33b14, e33b17 v31, e33b0 c3 v31, e33b13 c6, e33b1 c0 c1 c2 c3 c4, e33b69 c122]⟩ : St)) (by kernel_rfl) (tsI 1 trivial) ?_
       refine awl_nil ?_
       refine asgQ_n ?_
       refine aw_block ?_
       refine sr ?_
       refine rq 3 (ob := (Ts 3 True)) (st' := (⟨106, [e33b101, e33b102, e33b95, sp 9 30004, e33b94, sI 53 sign, s1 54 (.pS a51), e33b86, e33b87, e33b88, e33b89, e33b90, e33b91, e33b81], [e33b15, e33b6 sign over, e33b56 c22, e33b14, e33b17 v31, e33b0 c3 v31, e33b13 c6, e33b1 c0 c1 c2 c3 c4, e33b69 c122]⟩ : St)) (by kernel_rfl) (tsI 3 trivial) ?_
       refine lcq (d := 55) [.d (.int .i64), .d (.sl (.int .i64))] (fun ret55v => (⟨106, [e33b101, e33b102, e33b95, sp 9 30004, e33b94, s1 55 (.p (.sl (.pr (.int .i64) (.int .i64))) ret55v), e33b86, e33b87, e33b88, e33b89, e33b90, e33b91, e33b81], [e33b15, e33b6 sign over, e33b56 c22, e33b14, e33b17 v31, e33b0 c3 v31, e33b13 c6, e33b1 c0 c1 c2 c3 c4, e33b69 c122]⟩ : St)) (by kernel_rfl) Try.call97 (fun _ => by kernel_rfl) (link97 sign a51 _ h) (fun ret55v h => ?_)
       refine rq 1 (ob := (Ts 1 True)) (st' := (⟨106, [e33b101, e33b102, e33b95, sp 9 30004, e33b94, e33b37 ret55v, e33b86, e33b87, e33b88, e33b89, e33b90, e33b91, e33b81], [e33b15, e33b6 sign over, e33b56 c22, e33b14, e33b17 v31, e33b0 c3 v31, e33b13 c6, e33b1 c0 c1 c2 c3 c4, e33b69 c122]⟩ : St)) (by kernel_rfl) (tsI 1 trivial) ?_
       refine nsr ?_
       refine rq 4 (ob := (Ts 4 True)) (st' := (⟨106, [e33b101, e33b102, e33b95, sp 9 30004, e33b94, e33b37 ret55v, sp 56 40400, s1 58 (.pS ((c3.getD (v31).toNat ((0 : Int), ([] : LI))).2)), s1 59 (.p (.sl (.pr (.int .i64) (.int .i64))) ret55v), e33b86, e33b87, e33b88, e33b89, e33b90, e33b91, e33b81], [e33b15, e33b6 sign over, e33b56 c22, e33b14, e33b17 v31, e33b0 c3 v31, e33b13 c6, e33b1 c0 c1 c2 c3 c4, e33b69 c122]⟩ : St)) (by kernel_rfl) (tsI 4 trivial) ?_
       refine awl_inlr [.t 6] [30000, 30001, 30002, 30003, 30004, 30005, 30006, 40400, 40401] [.c (.ptr 40400 0), .c (.pS ((c3.getD (v31).toNat ((0 : Int), ([] : LI))).2)), .c (.p (.sl (.pr (.int .i64) (.int .i64))) ret55v)] [] rfl rfl (by kernel_rfl) rfl (by kernel_rfl) Try.call98 (by kernel_rfl) (by kernel_rfl) Try.func98 rfl rfl (by kernel_rfl) ?_
       refine aw_conv [] (st' := (⟨28, [e33b61, e33b128 c3 v31, e33b66 ret55v, e33b82, e33b83, e33b84, e33b129, e33b85, e33b23 ret55v, sp 84 40400, s1 86 (.pS ((c3.getD (v31).toNat ((0 : Int), ([] : LI))).2)), s1 87 (.p (.sl (.pr (.int .i64) (.int .i64))) ret55v), e33b72, e33b73, e33b74, e33b75, e33b76, e33b77, e33b78], [e33b15, e33b6 sign over, e33b56 c22, e33b14, e33b17 v31, e33b0 c3 v31, e33b13 c6, e33b1 c0 c1 c2 c3 c4, e33b69 c122]⟩ : St)) (by kernel_rfl) ?_
       refine sr ?_
       refine rq 1 (ob := (Ts 1 True)) (st' := (⟨28, [e33b61, e33b128 c3 v31, e33b66 ret55v, e33b82, e33b83, e33b84, e33b129, e33b85, e33b23 ret55v, e33b72, e33b73, e33b74, e33b75, e33b76, e33b77, e33b78], [e33b15, e33b6 sign over, e33b56 c22, e33b14, e33b17 v31, e33b0 c3 v31, e33b13 c6, e33b1 c0 c1 c2 c3 c4, e33b69 c122]⟩ : St)) (by kernel_rfl) (tsI 1 trivial) ?_
       refine nsr ?_
       refine rq 1 (ob := (Ts 1 True)) (st' := (⟨28, [e33b61, e33b128 c3 v31, e33b66 ret55v, sI 7 (1 : Int), e33b82, e33b83, e33b84, e33b129, e33b85, e33b23 ret55v, e33b72, e33b73, e33b74, e33b75, e33b76, e33b77, e33b78], [e33b15, e33b6 sign over, e33b56 c22, e33b14, e33b17 v31, e33b0 c3 v31, e33b13 c6, e33b1 c0 c1 c2 c3 c4, e33b69 c122]⟩ : St)) (by kernel_rfl) (tsI 1 trivial) ?_
       refine nn ?_
       refine aw_seq ?_
       refine sr ?_
       refine rq 3 (ob := (Ts 3 True)) (st' := (⟨28, [e33b61, e33b66 ret55v, sI 7 (1 : Int), e33b79 c3 v31, e33b67 c3 v31, sI 12 (0 : Int), e33b82, e33b83, e33b84, e33b129, e33b85, e33b23 ret55v, e33b72, e33b73, e33b74, e33b75, e33b76, e33b77, e33b78], [e33b15, e33b6 sign over, e33b56 c22, e33b14, e33b17 v31, e33b0 c3 v31, e33b13 c6, e33b1 c0 c1 c2 c3 c4, e33b69 c122]⟩ : St)) (by kernel_rfl) (tsI 3 trivial) ?_
       refine nn ?_
       refine withJoin (σ := Int × (List ((Int × (Int × (Int × Int))) × Int))) (fun s => (⟨28, [sI 7 s.1, e33b82, e33b83, e33b84, e33b129, e33b85, e33b23 ret55v, e33b72, e33b73, e33b74, e33b75, e33b76, e33b77, e33b78], [e33b15, e33b6 sign over, e33b56 c22, e33b14, e33b17 v31, e33b0 c3 v31, e33b13 c6, e33b1 c0 c1 c2 c3 c4, (40401, [], .dict (.pr (.int .i64) t3) (.int .i64) s.2)]⟩ : St)) (fun s => VCc67_k3 c0 c1 c2 c3 c4 R v31 c22 c6 Kt Kf ret55v s.1 s.2) (fun s h => ?_) (fun rest13 => ?_)
       ·obtain ⟨n, l404012⟩ := s
        have h : VCc67_k3 c0 c1 c2 c3 c4 R v31 c22 c6 Kt Kf ret55v n l404012 := h
        unfold VCc67_k3 at h
        refine thenQ_n ?_
        refine sr ?_
        refine rq 2 (ob := (Ts 2 True)) (st' := (⟨28, [sI 6 n, e33b82, e33b83, e33b84, e33b129, e33b85, e33b23 ret55v, e33b72, e33b73, e33b74, e33b75, e33b76, e33b77, e33b78], [e33b15, e33b6 sign over, e33b56 c22, e33b14, e33b17 v31, e33b0 c3 v31, e33b13 c6, e33b1 c0 c1 c2 c3 c4, e33b39 l404012]⟩ : St)) (by kernel_rfl) (tsI 2 trivial) ?_
        refine nn ?_
        refine aw_ret ?_
        refine inlR_r (ob := True) (.v (.c (.pI n))) (by kernel_rfl) trivial rfl ?_
        refine lpr (st' := (⟨106, [e33b101, e33b102, e33b95, sp 9 30004, e33b94, e33b37 ret55v, sI 60 n, e33b86, e33b87, e33b88, e33b89, e33b90, e33b91, e33b81], [e33b15, e33b6 sign over, e33b56 c22, e33b14, e33b17 v31, e33b0 c3 v31, e33b13 c6, e33b1 c0 c1 c2 c3 c4, e33b39 l404012]⟩ : St)) (by kernel_rfl) ?_
        refine rq 1 (ob := (Ts 1 True)) (st' := (⟨106, [e33b101, e33b102, e33b95, sp 9 30004, e33b94, e33b37 ret55v, sI 13 n, e33b86, e33b87, e33b88, e33b89, e33b90, e33b91, e33b81], [e33b15, e33b6 sign over, e33b56 c22, e33b14, e33b17 v31, e33b0 c3 v31, e33b13 c6, e33b1 c0 c1 c2 c3 c4, e33b39 l404012]⟩ : St)) (by kernel_rfl) (tsI 1 trivial) ?_
        refine nn ?_
        refine aw_seq ?_
        refine sr ?_
        refine rq 3 (ob := (Ts 3 True)) (st' := (⟨106, [e33b101, e33b102, e33b95, sp 9 30004, e33b94, e33b37 ret55v, sI 13 n, sB 63 (decide (n ≤ c22)), e33b86, e33b87, e33b88, e33b89, e33b90, e33b91, e33b81], [e33b15, e33b6 sign over, e33b56 c22, e33b14, e33b17 v31, e33b0 c3 v31, e33b13 c6, e33b1 c0 c1 c2 c3 c4, e33b39 l404012]⟩ : St)) (by kernel_rfl) (tsI 3 trivial) ?_
        refine nn ?_
        refine aw_cond (b := (decide (n ≤ c22))) (by kernel_rfl) (fun hb => ?_) (fun hb => ?_)
        ·have h := h.1 hb
         refine sr ?_
         obtain ⟨o1, h⟩ := h
         refine rq 4 (ob := (Ts 2 (InR (c22 - n) ∧ Ts 1 True))) (st' := (⟨106, [e33b86, e33b87, e33b88, e33b89, e33b90, e33b91, e33b81], [e33b15, e33b6 sign over, hB 30002 [.pI (c22 - n)], e33b14, e33b17 v31, e33b0 c3 v31, e33b13 c6, e33b1 c0 c1 c2 c3 c4, e33b39 l404012]⟩ : St)) (by kernel_rfl) (tsI 2 ⟨o1, tsI 1 trivial⟩) ?_
         refine nn ?_
         refine aw_exit ?_
         refine thenQ_x ?_
         refine blockQ_hit ?_
         exact yret_n ((c22 - n), c6, l404012) (by kernel_rfl) (by kernel_rfl) h
        ·have h := h.2 hb
         refine aw_skip ?_
         refine thenQ_n ?_
         refine sr ?_
         refine rq 3 (ob := (Ts 3 True)) (st' := (⟨106, [e33b101, e33b102, e33b95, e33b94, e33b37 ret55v, e33b132, e33b86, e33b87, e33b88, e33b89, e33b90, e33b91, e33b81], [hA 68 3 (.int .i64) [v31], e33b15, e33b6 sign over, e33b56 c22, e33b14, e33b17 v31, e33b0 c3 v31, e33b13 c6, e33b1 c0 c1 c2 c3 c4, e33b39 l404012]⟩ : St)) (by kernel_rfl) (tsI 3 trivial) ?_
         refine nn ?_
         refine aw_seq ?_
         refine sr ?_
         refine rq 4 (ob := (Ts 4 True)) (st' := (⟨106, [e33b101, e33b102, e33b95, e33b94, e33b37 ret55v, e33b132, e33b38 c3 v31, e33b34 c3 v31, sI 72 (0 : Int), e33b86, e33b87, e33b88, e33b89, e33b90, e33b91, e33b81], [hA 68 3 (.int .i64) [v31], e33b15, e33b6 sign over, e33b56 c22, e33b14, e33b17 v31, e33b0 c3 v31, e33b13 c6, e33b1 c0 c1 c2 c3 c4, e33b39 l404012]⟩ : St)) (by kernel_rfl) (tsI 4 trivial) ?_
         refine nn ?_
         refine withJoin (σ := LI × Int × (List ((Int × (Int × (Int × Int))) × Int))) (fun s => (⟨106, [e33b95, e33b132, e33b86, e33b87, e33b88, e33b89, e33b90, e33b91, e33b81], [hA 68 3 (.int .i64) s.1, e33b15, e33b6 sign over, hB 30002 [.pI s.2.1], e33b14, e33b17 v31, e33b0 c3 v31, e33b13 c6, e33b1 c0 c1 c2 c3 c4, (40401, [], .dict (.pr (.int .i64) t3) (.int .i64) s.2.2)]⟩ : St)) (fun s => VCc67_k4 Kf s.1 s.2.1 s.2.2) (fun s h => ?_) (fun rest3 => ?_)
         ·obtain ⟨out, l30002, l404013⟩ := s
          have h : VCc67_k4 Kf out l30002 l404013 := h
          unfold VCc67_k4 at h
          refine thenQ_n ?_
          refine sr ?_
          refine rq 2 (ob := (Ts 2 True)) (st' := (⟨106, [e33b86, e33b87, e33b88, e33b89, e33b90, e33b91, e33b81], [hA 68 3 (.int .i64) out, e33b15, e33b6 sign over, hB 30002 [.pI l30002], hB 30003 [.own 68], e33b17 v31, e33b0 c3 v31, e33b1 c0 c1 c2 c3 c4, e33b31 l404013]⟩ : St)) (by kernel_rfl) (tsI 2 trivial) ?_
          refine nn ?_
          refine aw_conv [.ren 68 30006, .prune [106, 107, 108, 109, 110, 111, 112] [30000, 30001, 30002, 30003, 30004, 30005, 30006, 40400, 40401]] (st' := (⟨106, [e33b86, e33b87, e33b88, e33b89, e33b90, e33b91, e33b81], [e33b15, e33b6 sign over, hB 30002 [.pI l30002], e33b14, e33b17 v31, e33b0 c3 v31, hA 30006 3 (.int .i64) out, e33b1 c0 c1 c2 c3 c4, e33b31 l404013]⟩ : St)) (by kernel_rfl) ?_
          refine aw_ret ?_
          refine blockQ_r ?_
          exact yret_r ((1 : Int), l30002, out, l404013) (by kernel_rfl) (by kernel_rfl) h
         ·refine aw_block ?_
          refine aw_loop (σ := Int × LI × Int × (List ((Int × (Int × (Int × Int))) × Int))) (fun s => (⟨106, [e33b101, e33b102, e33b95, e33b94, e33b37 ret55v, e33b132, e33b38 c3 v31, e33b34 c3 v31, sI 72 s.1, e33b86, e33b87, e33b88, e33b89, e33b90, e33b91, e33b81], [hA 68 3 (.int .i64) s.2.1, e33b15, e33b6 sign over, hB 30002 [.pI s.2.2.1], e33b14, e33b17 v31, e33b0 c3 v31, e33b13 c6, e33b1 c0 c1 c2 c3 c4, (40401, [], .dict (.pr (.int .i64) t3) (.int .i64) s.2.2.2)]⟩ : St)) (fun s X => VCc67_l2 c0 c1 c2 c3 c4 R v31 Kf ret55v s.1 s.2.1 s.2.2.1 s.2.2.2 X) (s0 := ((0 : Int), [v31], c22, l404012)) (fun s X2 h => ?_) h
          obtain ⟨v72, out, i3, l404013⟩ := s
          have h : VCc67_l2 c0 c1 c2 c3 c4 R v31 Kf ret55v v72 out i3 l404013 X2 := h
          unfold VCc67_l2 at h
          refine sr ?_
          refine rq 1 (ob := (Ts 1 True)) (st' := (⟨106, [e33b101, e33b102, e33b95, e33b94, e33b37 ret55v, e33b132, e33b38 c3 v31, e33b34 c3 v31, sI 72 v72, sB 73 (decide (v72 < (((c3.getD (v31).toNat ((0 : Int), ([] : LI))).2).length : Int))), e33b86, e33b87, e33b88, e33b89, e33b90, e33b91, e33b81], [hA 68 3 (.int .i64) out, e33b15, e33b6 sign over, e33b28 i3, e33b14, e33b17 v31, e33b0 c3 v31, e33b13 c6, e33b1 c0 c1 c2 c3 c4, e33b31 l404013]⟩ : St)) (by kernel_rfl) (tsI 1 trivial) ?_
          refine nn ?_
          refine aw_seq ?_
          refine aw_cond (b := (decide (v72 < (((c3.getD (v31).toNat ((0 : Int), ([] : LI))).2).length : Int)))) (by kernel_rfl) (fun hb => ?_) (fun hb => ?_)
          ·have h := h.1 hb
           refine aw_skip ?_
           refine thenQ_n ?_
           refine aw_seq ?_
           refine aw_block ?_
           refine sr ?_
           obtain ⟨o1, h⟩ := h
           refine rq 5 (ob := (Ts 1 (inIdx v72 ((c3.getD (v31).toNat ((0 : Int), ([] : LI))).2).length ∧ Ts 3 True))) (st' := (⟨106, [e33b101, e33b102, e33b95, e33b94, e33b37 ret55v, e33b132, sI 15 v72, e33b42 c3 v31 v72, e33b38 c3 v31, e33b34 c3 v31, sI 72 v72, e33b86, e33b87, e33b88, e33b89, e33b90, e33b91, e33b81], [hA 68 3 (.int .i64) out, e33b15, e33b6 sign over, e33b28 i3, e33b14, e33b17 v31, e33b0 c3 v31, e33b13 c6, e33b1 c0 c1 c2 c3 c4, e33b31 l404013]⟩ : St)) (by kernel_rfl) (tsI 1 ⟨o1, tsI 3 trivial⟩) ?_
           refine nn ?_
           refine aw_seq ?_
           refine withJoin (σ := Int × (List ((Int × (Int × (Int × Int))) × Int))) (fun s => (⟨106, [e33b101, e33b102, e33b95, e33b94, e33b37 ret55v, e33b113, sI 15 v72, e33b42 c3 v31 v72, sI 17 s.1, e33b38 c3 v31, e33b34 c3 v31, sI 72 v72, e33b86, e33b87, e33b88, e33b89, e33b90, e33b91, e33b81], [e33b15, e33b6 sign over, e33b28 i3, e33b14, e33b17 v31, e33b0 c3 v31, e33b13 c6, e33b18 out, e33b1 c0 c1 c2 c3 c4, (40401, [], .dict (.pr (.int .i64) t3) (.int .i64) s.2)]⟩ : St)) (fun s => VCc67_k5 c3 R v31 ret55v v72 out i3 X2 s.1 s.2) (fun s h => ?_) (fun rest4 => ?_)
           ·obtain ⟨restv, l404014⟩ := s
            have h : VCc67_k5 c3 R v31 ret55v v72 out i3 X2 restv l404014 := h
            unfold VCc67_k5 at h
            refine thenQ_n ?_
            refine aw_seq ?_
            refine awd_begin [30400, 40400, 40401] (by kernel_rfl) ?_
            obtain ⟨o1, o2, h⟩ := h
            refine drq (by kernel_rfl) [0, 1, 2, 3, 4, 5, 6, 7, 8, 9] (ob := (Ts 5 (inIdx v72 ret55v.length ∧ Ts 3 ((0 ≤ i3 ∧ 0 < restv) ∧ True)))) (done' := [9, 8, 7, 6, 5, 4, 3, 2, 1, 0]) (st' := (⟨106, [e33b101, e33b102, e33b95, e33b94, e33b37 ret55v, e33b113, sI 17 restv, e33b38 c3 v31, e33b34 c3 v31, sI 72 v72, s1 88 (.own 30400), sp 89 40400, sI 90 (((c3.getD (v31).toNat ((0 : Int), ([] : LI))).2).getD (v72).toNat (0 : Int)), e33b121 ret55v v72, sI 97 (i3 / restv), e33b86, e33b87, e33b88, e33b89, e33b90, e33b91, e33b81], [e33b15, e33b6 sign over, e33b28 i3, e33b14, e33b17 v31, e33b0 c3 v31, e33b13 c6, e33b18 out, e33b1 c0 c1 c2 c3 c4, e33b24 l404014]⟩ : St)) (by kernel_rfl) (tsI 5 (⟨o1, tsI 3 ⟨o2, trivial⟩⟩)) ?_
            refine awd_one (i := 10) (by kernel_rfl) ?_
            refine adop_lcall (σ := LI × (List ((Int × (Int × (Int × Int))) × Int))) [40400, 40401] [40400] [.c (.ptr 40400 0), .c (.pI (((c3.getD (v31).toNat ((0 : Int), ([] : LI))).2).getD (v72).toNat (0 : Int))), .agg [.pI ((ret55v.getD (v72).toNat ((0 : Int), (0 : Int))).1), .pI ((ret55v.getD (v72).toNat ((0 : Int), (0 : Int))).2)], .c (.pI (i3 / restv))] [] (fun ret98v => .v (.c (.pS ret98v.1))) (fun ret98v => [hB 40400 [.pI c0, .pI c1, .pI c2, .p (.sl (.pr (.int .i64) (.sl (.int .i64)))) c3, .pS c4, .own 40401], (40401, [], .dict (.pr (.int .i64) t3) (.int .i64) ret98v.2)]) (fun (ret98v : LI × (List ((Int × (Int × (Int × Int))) × Int))) => (roomN (out.length + ret98v.1.length) ∧ ((0 ≤ i3 ∧ 0 < restv) ∧ (InR (v72 + (1 : Int)) ∧ X2 ((v72 + (1 : Int)), (out ++ ret98v.1), (i3 % restv), ret98v.2))))) [hB 40400 [.pI c0, .pI c1, .pI c2, .p (.sl (.pr (.int .i64) (.sl (.int .i64)))) c3, .pS c4, .own 40401], (40401, [], .dict (.pr (.int .i64) t3) (.int .i64) l404014)] (fun ret98v => (⟨106, [s1 98 (.pS ret98v.1), e33b101, e33b102, e33b95, e33b94, e33b37 ret55v, e33b113, sI 17 restv, e33b38 c3 v31, e33b34 c3 v31, sI 72 v72, s1 88 (.own 30400), sp 89 40400, sI 90 (((c3.getD (v31).toNat ((0 : Int), ([] : LI))).2).getD (v72).toNat (0 : Int)), e33b121 ret55v v72, sI 97 (i3 / restv), e33b86, e33b87, e33b88, e33b89, e33b90, e33b91, e33b81], [e33b1 c0 c1 c2 c3 c4, e33b93 ret98v, e33b15, e33b6 sign over, e33b28 i3, e33b14, e33b17 v31, e33b0 c3 v31, e33b13 c6, e33b18 out]⟩ : St)) rfl (by kernel_rfl) rfl rfl (by kernel_rfl) rfl (by kernel_rfl) Try.call67 (by kernel_rfl) (by kernel_rfl) (by kernel_rfl) (fun _ _ => rfl) (fun _ => by kernel_rfl) (hR (((c3.getD (v31).toNat ((0 : Int), ([] : LI))).2).getD (v72).toNat (0 : Int)) ((ret55v.getD (v72).toNat ((0 : Int), (0 : Int))).1) ((ret55v.getD (v72).toNat ((0 : Int), (0 : Int))).2) (i3 / restv) l404014 _ h) (fun ret98v h => ?_)
            refine dpr (st' := (⟨106, [e33b101, e33b102, e33b95, e33b94, e33b37 ret55v, e33b113, sI 17 restv, e33b38 c3 v31, e33b34 c3 v31, sI 72 v72, s1 88 (.own 30400), s1 98 (.pS ret98v.1), e33b86, e33b87, e33b88, e33b89, e33b90, e33b91, e33b81], [e33b15, e33b6 sign over, e33b28 i3, e33b14, e33b17 v31, e33b0 c3 v31, e33b13 c6, e33b18 out, e33b1 c0 c1 c2 c3 c4, e33b93 ret98v]⟩ : St)) (by kernel_rfl) ?_
            refine awd_one (i := 11) (by kernel_rfl) ?_
            obtain ⟨o1, h⟩ := h
            refine dsq (ob := roomN (out.length + ret98v.1.length)) (st' := (⟨106, [e33b101, e33b102, e33b95, e33b94, e33b37 ret55v, sI 17 restv, e33b38 c3 v31, e33b34 c3 v31, sI 72 v72, s1 99 (.own 99), e33b86, e33b87, e33b88, e33b89, e33b90, e33b91, e33b81], [hA 99 3 (.int .i64) (out ++ ret98v.1), e33b15, e33b6 sign over, e33b28 i3, e33b14, e33b17 v31, e33b0 c3 v31, e33b13 c6, e33b1 c0 c1 c2 c3 c4, e33b93 ret98v]⟩ : St)) rfl (by kernel_rfl) o1 ?_
            refine drq (by kernel_rfl) [12] (ob := (Ts 1 True)) (done' := [12, 11, 10, 9, 8, 7, 6, 5, 4, 3, 2, 1, 0]) (st' := (⟨106, [e33b101, e33b102, e33b95, e33b94, e33b37 ret55v, s1 14 (.own 99), sI 17 restv, e33b38 c3 v31, e33b34 c3 v31, sI 72 v72, e33b86, e33b87, e33b88, e33b89, e33b90, e33b91, e33b81], [hA 99 3 (.int .i64) (out ++ ret98v.1), e33b15, e33b6 sign over, e33b28 i3, e33b14, e33b17 v31, e33b0 c3 v31, e33b13 c6, e33b1 c0 c1 c2 c3 c4, e33b93 ret98v]⟩ : St)) (by kernel_rfl) (tsI 1 trivial) ?_
            refine awd_done (by kernel_rfl) ?_
            refine thenQ_n ?_
            refine aw_region ?_
            obtain ⟨o1, h⟩ := h
            refine rq 4 (ob := (Ts 2 ((0 ≤ i3 ∧ 0 < restv) ∧ Ts 1 True))) (st' := (⟨106, [e33b101, e33b102, e33b95, e33b94, e33b37 ret55v, s1 14 (.own 99), e33b38 c3 v31, e33b34 c3 v31, sI 72 v72, e33b86, e33b87, e33b88, e33b89, e33b90, e33b91, e33b81], [hA 99 3 (.int .i64) (out ++ ret98v.1), e33b15, e33b6 sign over, hB 30002 [.pI (i3 % restv)], e33b14, e33b17 v31, e33b0 c3 v31, e33b13 c6, e33b1 c0 c1 c2 c3 c4, e33b93 ret98v]⟩ : St)) (by kernel_rfl) (tsI 2 ⟨o1, tsI 1 trivial⟩) ?_
            refine awl_nil ?_
            refine blockQ_n ?_
            refine thenQ_n ?_
            refine aw_region ?_
            obtain ⟨o1, h⟩ := h
            refine rq 2 (ob := (InR (v72 + (1 : Int)) ∧ Ts 1 True)) (st' := (⟨106, [e33b101, e33b102, e33b95, e33b94, e33b37 ret55v, s1 14 (.own 99), e33b38 c3 v31, e33b34 c3 v31, sI 72 (v72 + (1 : Int)), e33b86, e33b87, e33b88, e33b89, e33b90, e33b91, e33b81], [hA 99 3 (.int .i64) (out ++ ret98v.1), e33b15, e33b6 sign over, hB 30002 [.pI (i3 % restv)], e33b14, e33b17 v31, e33b0 c3 v31, e33b13 c6, e33b1 c0 c1 c2 c3 c4, e33b93 ret98v]⟩ : St)) (by kernel_rfl) (⟨o1, tsI 1 trivial⟩) ?_
            refine awl_conv [.ren 99 20099, .ren 20099 68] (st' := (⟨106, [e33b101, e33b102, e33b95, e33b94, e33b37 ret55v, e33b132, e33b38 c3 v31, e33b34 c3 v31, sI 72 (v72 + (1 : Int)), e33b86, e33b87, e33b88, e33b89, e33b90, e33b91, e33b81], [hA 68 3 (.int .i64) (out ++ ret98v.1), e33b15, e33b6 sign over, hB 30002 [.pI (i3 % restv)], e33b14, e33b17 v31, e33b0 c3 v31, e33b13 c6, e33b1 c0 c1 c2 c3 c4, e33b93 ret98v]⟩ : St)) (by kernel_rfl) ?_
            refine awl_nil ?_
            exact thenQ_n ⟨((v72 + (1 : Int)), (out ++ ret98v.1), (i3 % restv), ret98v.2), rfl, h⟩
           ·refine aw_conv [.ren 68 30400] (st' := (⟨106, [e33b101, e33b102, e33b95, e33b94, e33b37 ret55v, e33b113, sI 15 v72, e33b42 c3 v31 v72, e33b38 c3 v31, e33b34 c3 v31, sI 72 v72, e33b86, e33b87, e33b88, e33b89, e33b90, e33b91, e33b81], [e33b18 out, e33b15, e33b6 sign over, e33b28 i3, e33b14, e33b17 v31, e33b0 c3 v31, e33b13 c6, e33b1 c0 c1 c2 c3 c4, e33b31 l404013]⟩ : St)) (by kernel_rfl) ?_
            refine awd_begin [30000, 30001, 30002, 30003, 30004, 30005, 30006, 30400, 40400, 40401] (by kernel_rfl) ?_
            obtain ⟨o1, o2, o3, h⟩ := h
            refine drq (by kernel_rfl) [1, 3, 4, 6, 7, 8, 9] (ob := (Ts 2 (InR (v72 + (1 : Int)) ∧ Ts 2 (InR (v72 + (1 : Int)) ∧ (0 ≤ (v72 + (1 : Int)) ∧ (v72 + (1 : Int)) ≤ (ret55v.length : Int)) ∧ True)))) (done' := [9, 8, 7, 6, 4, 3, 1]) (st' := (⟨106, [e33b101, e33b102, e33b95, e33b94, e33b37 ret55v, e33b113, sI 15 v72, e33b42 c3 v31 v72, e33b38 c3 v31, e33b34 c3 v31, sI 72 v72, s1 78 (.ptr 30005 1), sI 81 (v72 + (1 : Int)), e33b68 ret55v v72, e33b86, e33b87, e33b88, e33b89, e33b90, e33b91, e33b81], [e33b15, e33b6 sign over, e33b28 i3, e33b14, e33b17 v31, e33b0 c3 v31, e33b13 c6, e33b18 out, e33b1 c0 c1 c2 c3 c4, e33b31 l404013]⟩ : St)) (by kernel_rfl) (tsI 2 (⟨o1, tsI 2 (⟨o2, ⟨o3, trivial⟩⟩)⟩)) ?_
            refine awd_two (i := 0) (j := 2) (by kernel_rfl) ?_ ?_
            ·have h := h.1
             refine dsq (ob := True) (st' := (⟨106, [e33b101, e33b102, e33b95, e33b94, e33b37 ret55v, e33b113, sI 15 v72, e33b42 c3 v31 v72, e33b38 c3 v31, e33b34 c3 v31, sI 72 v72, sp 77 40400, s1 78 (.ptr 30005 1), sI 81 (v72 + (1 : Int)), e33b68 ret55v v72, e33b86, e33b87, e33b88, e33b89, e33b90, e33b91, e33b81], [e33b15, e33b6 sign over, e33b28 i3, e33b14, e33b17 v31, e33b0 c3 v31, e33b13 c6, e33b18 out, e33b1 c0 c1 c2 c3 c4, e33b31 l404013]⟩ : St)) rfl (by kernel_rfl) trivial ?_
             refine awd_one (i := 2) (by kernel_rfl) ?_
             refine dsq (ob := True) (st' := (⟨106, [e33b101, e33b102, e33b95, e33b94, e33b37 ret55v, e33b113, sI 15 v72, e33b42 c3 v31 v72, e33b38 c3 v31, e33b34 c3 v31, sI 72 v72, sp 77 40400, s1 79 (.pS ((c3.getD (v31).toNat ((0 : Int), ([] : LI))).2)), sI 81 (v72 + (1 : Int)), e33b68 ret55v v72, e33b86, e33b87, e33b88, e33b89, e33b90, e33b91, e33b81], [e33b15, e33b6 sign over, e33b28 i3, e33b14, e33b17 v31, e33b0 c3 v31, e33b13 c6, e33b18 out, e33b1 c0 c1 c2 c3 c4, e33b31 l404013]⟩ : St)) rfl (by kernel_rfl) trivial ?_
             obtain ⟨o1, h⟩ := h
             refine drq (by kernel_rfl) [5] (ob := ((0 ≤ (v72 + (1 : Int)) ∧ (v72 + (1 : Int)) ≤ (((c3.getD (v31).toNat ((0 : Int), ([] : LI))).2).length : Int)) ∧ True)) (done' := [5, 2, 0, 9, 8, 7, 6, 4, 3, 1]) (st' := (⟨106, [e33b101, e33b102, e33b95, e33b94, e33b37 ret55v, e33b113, sI 15 v72, e33b42 c3 v31 v72, e33b38 c3 v31, e33b34 c3 v31, sI 72 v72, sp 77 40400, e33b115 c3 v31 v72, e33b68 ret55v v72, e33b86, e33b87, e33b88, e33b89, e33b90, e33b91, e33b81], [e33b15, e33b6 sign over, e33b28 i3, e33b14, e33b17 v31, e33b0 c3 v31, e33b13 c6, e33b18 out, e33b1 c0 c1 c2 c3 c4, e33b31 l404013]⟩ : St)) (by kernel_rfl) (⟨o1, trivial⟩) ?_
             refine awd_one (i := 10) (by kernel_rfl) ?_
             refine adop_inlr [.t 6] [.c (.ptr 40400 0), .c (.pS (((c3.getD (v31).toNat ((0 : Int), ([] : LI))).2).drop ((v72 + (1 : Int))).toNat)), .c (.p (.sl (.pr (.int .i64) (.int .i64))) (ret55v.drop ((v72 + (1 : Int))).toNat))] [] rfl rfl rfl (by kernel_rfl) rfl (by kernel_rfl) Try.call98 (by kernel_rfl) (by kernel_rfl) Try.func98 rfl rfl (by kernel_rfl) ?_
             refine aw_conv [] (st' := (⟨28, [e33b61, e33b70 c3 v31 v72, e33b27 ret55v v72, e33b82, e33b83, e33b84, e33b85, e33b23 ret55v, e33b80, sI 43 v72, e33b20 c3 v31 v72, e33b33 c3 v31, e33b26 c3 v31, sI 100 v72, sp 105 40400, s1 110 (.pS (((c3.getD (v31).toNat ((0 : Int), ([] : LI))).2).drop ((v72 + (1 : Int))).toNat)), s1 114 (.p (.sl (.pr (.int .i64) (.int .i64))) (ret55v.drop ((v72 + (1 : Int))).toNat)), e33b72, e33b73, e33b74, e33b75, e33b76, e33b77, e33b78], [e33b15, e33b6 sign over, e33b28 i3, e33b14, e33b17 v31, e33b0 c3 v31, e33b13 c6, e33b18 out, e33b1 c0 c1 c2 c3 c4, e33b31 l404013]⟩ : St)) (by kernel_rfl) ?_
             refine sr ?_
             refine rq 1 (ob := (Ts 1 True)) (st' := (⟨28, [e33b61, e33b70 c3 v31 v72, e33b27 ret55v v72, e33b82, e33b83, e33b84, e33b85, e33b23 ret55v, e33b80, sI 43 v72, e33b20 c3 v31 v72, e33b33 c3 v31, e33b26 c3 v31, sI 100 v72, e33b72, e33b73, e33b74, e33b75, e33b76, e33b77, e33b78], [e33b15, e33b6 sign over, e33b28 i3, e33b14, e33b17 v31, e33b0 c3 v31, e33b13 c6, e33b18 out, e33b1 c0 c1 c2 c3 c4, e33b31 l404013]⟩ : St)) (by kernel_rfl) (tsI 1 trivial) ?_
             refine nsr ?_
             refine rq 1 (ob := (Ts 1 True)) (st' := (⟨28, [e33b61, e33b70 c3 v31 v72, e33b27 ret55v v72, sI 7 (1 : Int), e33b82, e33b83, e33b84, e33b85, e33b23 ret55v, e33b80, sI 43 v72, e33b20 c3 v31 v72, e33b33 c3 v31, e33b26 c3 v31, sI 100 v72, e33b72, e33b73, e33b74, e33b75, e33b76, e33b77, e33b78], [e33b15, e33b6 sign over, e33b28 i3, e33b14, e33b17 v31, e33b0 c3 v31, e33b13 c6, e33b18 out, e33b1 c0 c1 c2 c3 c4, e33b31 l404013]⟩ : St)) (by kernel_rfl) (tsI 1 trivial) ?_
             refine nn ?_
             refine aw_seq ?_
             refine sr ?_
             refine rq 3 (ob := (Ts 3 True)) (st' := (⟨28, [e33b61, e33b27 ret55v v72, sI 7 (1 : Int), e33b36 c3 v31 v72, e33b30 c3 v31 v72, sI 12 (0 : Int), e33b82, e33b83, e33b84, e33b85, e33b23 ret55v, e33b80, sI 43 v72, e33b20 c3 v31 v72, e33b33 c3 v31, e33b26 c3 v31, sI 100 v72, e33b72, e33b73, e33b74, e33b75, e33b76, e33b77, e33b78], [e33b15, e33b6 sign over, e33b28 i3, e33b14, e33b17 v31, e33b0 c3 v31, e33b13 c6, e33b18 out, e33b1 c0 c1 c2 c3 c4, e33b31 l404013]⟩ : St)) (by kernel_rfl) (tsI 3 trivial) ?_
             refine nn ?_
             refine withJoin (σ := Int × (List ((Int × (Int × (Int × Int))) × Int))) (fun s => (⟨28, [sI 7 s.1, e33b82, e33b83, e33b84, e33b85, e33b23 ret55v, e33b80, sI 43 v72, e33b20 c3 v31 v72, e33b33 c3 v31, e33b26 c3 v31, sI 100 v72, e33b72, e33b73, e33b74, e33b75, e33b76, e33b77, e33b78], [e33b15, e33b6 sign over, e33b28 i3, e33b14, e33b17 v31, e33b0 c3 v31, e33b13 c6, e33b18 out, e33b1 c0 c1 c2 c3 c4, (40401, [], .dict (.pr (.int .i64) t3) (.int .i64) s.2)]⟩ : St)) (fun s => VCc67_k6 c3 R v31 ret55v v72 out i3 X2 s.1 s.2) (fun s h => ?_) (fun rest5 => ?_)
             ·obtain ⟨n2, l404014⟩ := s
              have h : VCc67_k6 c3 R v31 ret55v v72 out i3 X2 n2 l404014 := h
              unfold VCc67_k6 at h
              refine thenQ_n ?_
              refine sr ?_
              refine rq 2 (ob := (Ts 2 True)) (st' := (⟨28, [sI 6 n2, e33b82, e33b83, e33b84, e33b85, e33b23 ret55v, e33b80, sI 43 v72, e33b20 c3 v31 v72, e33b33 c3 v31, e33b26 c3 v31, sI 100 v72, e33b72, e33b73, e33b74, e33b75, e33b76, e33b77, e33b78], [e33b15, e33b6 sign over, e33b28 i3, e33b14, e33b17 v31, e33b0 c3 v31, e33b13 c6, e33b18 out, e33b1 c0 c1 c2 c3 c4, e33b24 l404014]⟩ : St)) (by kernel_rfl) (tsI 2 trivial) ?_
              refine nn ?_
              refine aw_ret ?_
              refine inlR_r (ob := True) (.v (.c (.pI n2))) (by kernel_rfl) trivial rfl ?_
              refine dpr (st' := (⟨106, [e33b101, e33b102, e33b95, e33b94, e33b37 ret55v, e33b113, sI 15 v72, e33b42 c3 v31 v72, e33b38 c3 v31, e33b34 c3 v31, sI 72 v72, sI 87 n2, e33b86, e33b87, e33b88, e33b89, e33b90, e33b91, e33b81], [e33b15, e33b6 sign over, e33b28 i3, e33b14, e33b17 v31, e33b0 c3 v31, e33b13 c6, e33b18 out, e33b1 c0 c1 c2 c3 c4, e33b24 l404014]⟩ : St)) (by kernel_rfl) ?_
              refine drq (by kernel_rfl) [11] (ob := (Ts 1 True)) (done' := [11, 10, 5, 2, 0, 9, 8, 7, 6, 4, 3, 1]) (st' := (⟨106, [e33b101, e33b102, e33b95, e33b94, e33b37 ret55v, e33b113, sI 15 v72, e33b42 c3 v31 v72, sI 17 n2, e33b38 c3 v31, e33b34 c3 v31, sI 72 v72, e33b86, e33b87, e33b88, e33b89, e33b90, e33b91, e33b81], [e33b15, e33b6 sign over, e33b28 i3, e33b14, e33b17 v31, e33b0 c3 v31, e33b13 c6, e33b18 out, e33b1 c0 c1 c2 c3 c4, e33b24 l404014]⟩ : St)) (by kernel_rfl) (tsI 1 trivial) ?_
              refine awd_done (by kernel_rfl) ?_
              exact rest4 (n2, l404014) h
             ·refine aw_block ?_
              refine aw_loop (σ := Int × Int × (List ((Int × (Int × (Int × Int))) × Int))) (fun s => (⟨28, [e33b61, e33b27 ret55v v72, sI 7 s.1, e33b36 c3 v31 v72, e33b30 c3 v31 v72, sI 12 s.2.1, e33b82, e33b83, e33b84, e33b85, e33b23 ret55v, e33b80, sI 43 v72, e33b20 c3 v31 v72, e33b33 c3 v31, e33b26 c3 v31, sI 100 v72, e33b72, e33b73, e33b74, e33b75, e33b76, e33b77, e33b78], [e33b15, e33b6 sign over, e33b28 i3, e33b14, e33b17 v31, e33b0 c3 v31, e33b13 c6, e33b18 out, e33b1 c0 c1 c2 c3 c4, (40401, [], .dict (.pr (.int .i64) t3) (.int .i64) s.2.2)]⟩ : St)) (fun s X => VCc67_l3 c0 c1 c2 c3 c4 R v31 ret55v v72 out i3 X2 s.1 s.2.1 s.2.2 X) (s0 := ((1 : Int), (0 : Int), l404013)) (fun s X3 h => ?_) h
              obtain ⟨n2, v12, l404014⟩ := s
              have h : VCc67_l3 c0 c1 c2 c3 c4 R v31 ret55v v72 out i3 X2 n2 v12 l404014 X3 := h
              unfold VCc67_l3 at h
              refine sr ?_
              refine rq 1 (ob := (Ts 1 True)) (st' := (⟨28, [e33b61, e33b27 ret55v v72, sI 7 n2, e33b36 c3 v31 v72, e33b30 c3 v31 v72, sI 12 v12, sB 13 (decide (v12 < ((((c3.getD (v31).toNat ((0 : Int), ([] : LI))).2).drop ((v72 + (1 : Int))).toNat).length : Int))), e33b82, e33b83, e33b84, e33b85, e33b23 ret55v, e33b80, sI 43 v72, e33b20 c3 v31 v72, e33b33 c3 v31, e33b26 c3 v31, sI 100 v72, e33b72, e33b73, e33b74, e33b75, e33b76, e33b77, e33b78], [e33b15, e33b6 sign over, e33b28 i3, e33b14, e33b17 v31, e33b0 c3 v31, e33b13 c6, e33b18 out, e33b1 c0 c1 c2 c3 c4, e33b24 l404014]⟩ : St)) (by kernel_rfl) (tsI 1 trivial) ?_
              refine nn ?_
              refine aw_seq ?_
              refine aw_cond (b := (decide (v12 < ((((c3.getD (v31).toNat ((0 : Int), ([] : LI))).2).drop ((v72 + (1 : Int))).toNat).length : Int)))) (by kernel_rfl) (fun hb => ?_) (fun hb => ?_)
              ·have h := h.1 hb
               refine aw_skip ?_
               refine thenQ_n ?_
               refine aw_seq ?_
               refine aw_block ?_
               refine sr ?_
               obtain ⟨o1, h⟩ := h
               refine rq 5 (ob := (Ts 1 (inIdx v12 (((c3.getD (v31).toNat ((0 : Int), ([] : LI))).2).drop ((v72 + (1 : Int))).toNat).length ∧ Ts 3 True))) (st' := (⟨28, [e33b61, e33b27 ret55v v72, sI 7 n2, sI 8 v12, sI 9 ((((c3.getD (v31).toNat ((0 : Int), ([] : LI))).2).drop ((v72 + (1 : Int))).toNat).getD (v12).toNat (0 : Int)), e33b36 c3 v31 v72, e33b30 c3 v31 v72, sI 12 v12, e33b82, e33b83, e33b84, e33b85, e33b23 ret55v, e33b80, sI 43 v72, e33b20 c3 v31 v72, e33b33 c3 v31, e33b26 c3 v31, sI 100 v72, e33b72, e33b73, e33b74, e33b75, e33b76, e33b77, e33b78], [e33b15, e33b6 sign over, e33b28 i3, e33b14, e33b17 v31, e33b0 c3 v31, e33b13 c6, e33b18 out, e33b1 c0 c1 c2 c3 c4, e33b24 l404014]⟩ : St)) (by kernel_rfl) (tsI 1 ⟨o1, tsI 3 trivial⟩) ?_
               refine nn ?_
               refine aw_region ?_
               obtain ⟨o1, h⟩ := h
               refine rq 7 (ob := (Ts 5 (inIdx v12 (ret55v.drop ((v72 + (1 : Int))).toNat).length ∧ Ts 1 True))) (st' := (⟨28, [e33b61, e33b27 ret55v v72, e33b36 c3 v31 v72, e33b30 c3 v31 v72, sI 12 v12, sI 17 n2, sp 18 40400, sI 19 ((((c3.getD (v31).toNat ((0 : Int), ([] : LI))).2).drop ((v72 + (1 : Int))).toNat).getD (v12).toNat (0 : Int)), e33b99 ret55v v72 v12, e33b82, e33b83, e33b84, e33b85, e33b23 ret55v, e33b80, sI 43 v72, e33b20 c3 v31 v72, e33b33 c3 v31, e33b26 c3 v31, sI 100 v72, e33b72, e33b73, e33b74, e33b75, e33b76, e33b77, e33b78], [e33b15, e33b6 sign over, e33b28 i3, e33b14, e33b17 v31, e33b0 c3 v31, e33b13 c6, e33b18 out, e33b1 c0 c1 c2 c3 c4, e33b24 l404014]⟩ : St)) (by kernel_rfl) (tsI 5 ⟨o1, tsI 1 trivial⟩) ?_
               refine awl_inlr [.t 6] [30000, 30001, 30002, 30003, 30004, 30005, 30006, 30400, 40400, 40401] [.c (.ptr 40400 0), .c (.pI ((((c3.getD (v31).toNat ((0 : Int), ([] : LI))).2).drop ((v72 + (1 : Int))).toNat).getD (v12).toNat (0 : Int))), .agg [.pI (((ret55v.drop ((v72 + (1 : Int))).toNat).getD (v12).toNat ((0 : Int), (0 : Int))).1), .pI (((ret55v.drop ((v72 + (1 : Int))).toNat).getD (v12).toNat ((0 : Int), (0 : Int))).2)]] [] rfl rfl (by kernel_rfl) rfl (by kernel_rfl) Try.call86 (by kernel_rfl) (by kernel_rfl) Try.func86 rfl rfl (by kernel_rfl) ?_
               refine aw_conv [] (st' := (⟨87, [e33b61, e33b10 c3 v31 v72 v12, e33b100 ret55v v72 v12, e33b62, e33b7 ret55v v72, e33b5 c3 v31 v72, e33b4 c3 v31 v72, sI 99 v12, sI 104 n2, sp 105 40400, sI 106 ((((c3.getD (v31).toNat ((0 : Int), ([] : LI))).2).drop ((v72 + (1 : Int))).toNat).getD (v12).toNat (0 : Int)), e33b98 ret55v v72 v12, e33b44, e33b45, e33b46, e33b47, e33b9 ret55v, e33b40, sI 130 v72, e33b8 c3 v31 v72, e33b16 c3 v31, e33b12 c3 v31, sI 187 v72, e33b48, e33b49, e33b50, e33b51, e33b52, e33b53, e33b60], [e33b15, e33b6 sign over, e33b28 i3, e33b14, e33b17 v31, e33b0 c3 v31, e33b13 c6, e33b18 out, e33b1 c0 c1 c2 c3 c4, e33b24 l404014]⟩ : St)) (by kernel_rfl) ?_
               refine withJoinR (σ := Int × (List ((Int × (Int × (Int × Int))) × Int))) (fun s => (⟨87, [sI 6 s.1, e33b62, e33b7 ret55v v72, e33b5 c3 v31 v72, e33b4 c3 v31 v72, sI 99 v12, sI 104 n2, e33b44, e33b45, e33b46, e33b47, e33b9 ret55v, e33b40, sI 130 v72, e33b8 c3 v31 v72, e33b16 c3 v31, e33b12 c3 v31, sI 187 v72, e33b48, e33b49, e33b50, e33b51, e33b52, e33b53, e33b60], [e33b15, e33b6 sign over, e33b28 i3, e33b14, e33b17 v31, e33b0 c3 v31, e33b13 c6, e33b18 out, e33b1 c0 c1 c2 c3 c4, (40401, [], .dict (.pr (.int .i64) t3) (.int .i64) s.2)]⟩ : St)) (fun s => VCc67_k7 n2 v12 X3 s.1 s.2) (fun s h => ?_) (fun rest6 => ?_)
               ·obtain ⟨v6, l404015⟩ := s
                have h : VCc67_k7 n2 v12 X3 v6 l404015 := h
                unfold VCc67_k7 at h
                refine inlR_n (ob := True) (.v (.c (.pI v6))) (by kernel_rfl) trivial rfl ?_
                refine lpr (st' := (⟨28, [e33b61, e33b27 ret55v v72, e33b36 c3 v31 v72, e33b30 c3 v31 v72, sI 12 v12, sI 17 n2, sI 24 v6, e33b82, e33b83, e33b84, e33b85, e33b23 ret55v, e33b80, sI 43 v72, e33b20 c3 v31 v72, e33b33 c3 v31, e33b26 c3 v31, sI 100 v72, e33b72, e33b73, e33b74, e33b75, e33b76, e33b77, e33b78], [e33b15, e33b6 sign over, e33b28 i3, e33b14, e33b17 v31, e33b0 c3 v31, e33b13 c6, e33b18 out, e33b1 c0 c1 c2 c3 c4, e33b41 l404015]⟩ : St)) (by kernel_rfl) ?_
                refine lcq (d := 25) [.d (.int .i64), .d (.int .i64)] (fun ret25v => (⟨28, [e33b61, e33b27 ret55v v72, e33b36 c3 v31 v72, e33b30 c3 v31 v72, sI 12 v12, sI 25 ret25v, e33b82, e33b83, e33b84, e33b85, e33b23 ret55v, e33b80, sI 43 v72, e33b20 c3 v31 v72, e33b33 c3 v31, e33b26 c3 v31, sI 100 v72, e33b72, e33b73, e33b74, e33b75, e33b76, e33b77, e33b78], [e33b15, e33b6 sign over, e33b28 i3, e33b14, e33b17 v31, e33b0 c3 v31, e33b13 c6, e33b18 out, e33b1 c0 c1 c2 c3 c4, e33b41 l404015]⟩ : St)) (by kernel_rfl) Try.call124 (fun _ => by kernel_rfl) (link124 n2 v6 _ h) (fun ret25v h => ?_)
                refine rq 1 (ob := (Ts 1 True)) (st' := (⟨28, [e33b61, e33b27 ret55v v72, sI 7 ret25v, e33b36 c3 v31 v72, e33b30 c3 v31 v72, sI 12 v12, e33b82, e33b83, e33b84, e33b85, e33b23 ret55v, e33b80, sI 43 v72, e33b20 c3 v31 v72, e33b33 c3 v31, e33b26 c3 v31, sI 100 v72, e33b72, e33b73, e33b74, e33b75, e33b76, e33b77, e33b78], [e33b15, e33b6 sign over, e33b28 i3, e33b14, e33b17 v31, e33b0 c3 v31, e33b13 c6, e33b18 out, e33b1 c0 c1 c2 c3 c4, e33b41 l404015]⟩ : St)) (by kernel_rfl) (tsI 1 trivial) ?_
                refine awl_nil ?_
                refine blockQ_n ?_
                refine thenQ_n ?_
                refine aw_region ?_
                obtain ⟨o1, h⟩ := h
                refine rq 2 (ob := (InR (v12 + (1 : Int)) ∧ Ts 1 True)) (st' := (⟨28, [e33b61, e33b27 ret55v v72, sI 7 ret25v, e33b36 c3 v31 v72, e33b30 c3 v31 v72, sI 12 (v12 + (1 : Int)), e33b82, e33b83, e33b84, e33b85, e33b23 ret55v, e33b80, sI 43 v72, e33b20 c3 v31 v72, e33b33 c3 v31, e33b26 c3 v31, sI 100 v72, e33b72, e33b73, e33b74, e33b75, e33b76, e33b77, e33b78], [e33b15, e33b6 sign over, e33b28 i3, e33b14, e33b17 v31, e33b0 c3 v31, e33b13 c6, e33b18 out, e33b1 c0 c1 c2 c3 c4, e33b41 l404015]⟩ : St)) (by kernel_rfl) (⟨o1, tsI 1 trivial⟩) ?_
                refine awl_nil ?_
                exact thenQ_n ⟨(ret25v, (v12 + (1 : Int)), l404015), rfl, h⟩
               ·refine sr ?_
                refine rq 2 (ob := (Ts 2 True)) (st' := (⟨87, [e33b61, e33b10 c3 v31 v72 v12, sp 5 5, e33b62, e33b7 ret55v v72, e33b5 c3 v31 v72, e33b4 c3 v31 v72, sI 99 v12, sI 104 n2, e33b44, e33b45, e33b46, e33b47, e33b9 ret55v, e33b40, sI 130 v72, e33b8 c3 v31 v72, e33b16 c3 v31, e33b12 c3 v31, sI 187 v72, e33b48, e33b49, e33b50, e33b51, e33b52, e33b53, e33b60], [e33b3 ret55v v72 v12, e33b15, e33b6 sign over, e33b28 i3, e33b14, e33b17 v31, e33b0 c3 v31, e33b13 c6, e33b18 out, e33b1 c0 c1 c2 c3 c4, e33b24 l404014]⟩ : St)) (by kernel_rfl) (tsI 2 trivial) ?_
                refine nn ?_
                refine aw_seq ?_
                refine sr ?_
                refine rq 7 (ob := (Ts 7 True)) (st' := (⟨87, [e33b61, e33b10 c3 v31 v72 v12, sp 5 5, sB 19 (decide (((((c3.getD (v31).toNat ((0 : Int), ([] : LI))).2).drop ((v72 + (1 : Int))).toNat).getD (v12).toNat (0 : Int)) < c0)), e33b62, e33b7 ret55v v72, e33b5 c3 v31 v72, e33b4 c3 v31 v72, sI 99 v12, sI 104 n2, e33b44, e33b45, e33b46, e33b47, e33b9 ret55v, e33b40, sI 130 v72, e33b8 c3 v31 v72, e33b16 c3 v31, e33b12 c3 v31, sI 187 v72, e33b48, e33b49, e33b50, e33b51, e33b52, e33b53, e33b60], [e33b3 ret55v v72 v12, e33b15, e33b6 sign over, e33b28 i3, e33b14, e33b17 v31, e33b0 c3 v31, e33b13 c6, e33b18 out, e33b1 c0 c1 c2 c3 c4, e33b24 l404014]⟩ : St)) (by kernel_rfl) (tsI 7 trivial) ?_
                refine nn ?_
                refine aw_cond (b := (decide (((((c3.getD (v31).toNat ((0 : Int), ([] : LI))).2).drop ((v72 + (1 : Int))).toNat).getD (v12).toNat (0 : Int)) < c0))) (by kernel_rfl) (fun hb => ?_) (fun hb => ?_)
                ·have h := h.1 hb
                 refine aw_seq ?_
                 refine aw_seq ?_
                 refine awd_begin [] (by kernel_rfl) ?_
                 obtain ⟨o1, o2, h⟩ := h
                 refine drq (by kernel_rfl) [0, 1, 2, 3, 4, 5, 6, 7, 8, 9, 10, 11, 12, 13, 14, 15, 16, 17] (ob := (Ts 4 (InR (((ret55v.drop ((v72 + (1 : Int))).toNat).getD (v12).toNat ((0 : Int), (0 : Int))).1 + (1 : Int)) ∧ Ts 2 (Ti 6 ((decide (((ret55v.drop ((v72 + (1 : Int))).toNat).getD (v12).toNat ((0 : Int), (0 : Int))).2 = (((ret55v.drop ((v72 + (1 : Int))).toNat).getD (v12).toNat ((0 : Int), (0 : Int))).1 + (1 : Int)))) = true → True) (((decide (((ret55v.drop ((v72 + (1 : Int))).toNat).getD (v12).toNat ((0 : Int), (0 : Int))).2 = (((ret55v.drop ((v72 + (1 : Int))).toNat).getD (v12).toNat ((0 : Int), (0 : Int))).1 + (1 : Int)))) = true → inIdx (((ret55v.drop ((v72 + (1 : Int))).toNat).getD (v12).toNat ((0 : Int), (0 : Int))).1) c4.length) ∧ Ti 3 ((decide (((ret55v.drop ((v72 + (1 : Int))).toNat).getD (v12).toNat ((0 : Int), (0 : Int))).2 = (((ret55v.drop ((v72 + (1 : Int))).toNat).getD (v12).toNat ((0 : Int), (0 : Int))).1 + (1 : Int)))) = true → True) (Ts 1 True)))))) (done' := [17, 16, 15, 14, 13, 12, 11, 10, 9, 8, 7, 6, 5, 4, 3, 2, 1, 0]) (st' := (⟨87, [e33b59 ret55v v72 v12 c4 c3 v31, e33b62, e33b7 ret55v v72, e33b5 c3 v31 v72, e33b4 c3 v31 v72, sI 99 v12, sI 104 n2, e33b44, e33b45, e33b46, e33b47, e33b9 ret55v, e33b40, sI 130 v72, e33b8 c3 v31 v72, e33b16 c3 v31, e33b12 c3 v31, sI 187 v72, e33b48, e33b49, e33b50, e33b51, e33b52, e33b53, e33b60], [e33b15, e33b6 sign over, e33b28 i3, e33b14, e33b17 v31, e33b0 c3 v31, e33b13 c6, e33b18 out, e33b1 c0 c1 c2 c3 c4, e33b24 l404014]⟩ : St)) (by kernel_rfl) (tsI 4 (⟨o1, tsI 2 (tiI 6 (fun _ => trivial) ⟨o2, tiI 3 (fun _ => trivial) (tsI 1 trivial)⟩)⟩)) ?_
                 refine awd_done (by kernel_rfl) ?_
                 refine thenQ_n ?_
                 refine aw_cond (b := ((decide (((ret55v.drop ((v72 + (1 : Int))).toNat).getD (v12).toNat ((0 : Int), (0 : Int))).2 = (((ret55v.drop ((v72 + (1 : Int))).toNat).getD (v12).toNat ((0 : Int), (0 : Int))).1 + (1 : Int)))) && (decide ((c4.getD (((ret55v.drop ((v72 + (1 : Int))).toNat).getD (v12).toNat ((0 : Int), (0 : Int))).1).toNat (0 : Int)) = ((((c3.getD (v31).toNat ((0 : Int), ([] : LI))).2).drop ((v72 + (1 : Int))).toNat).getD (v12).toNat (0 : Int)))))) (by kernel_rfl) (fun hb => ?_) (fun hb => ?_)
                 ·have h := h.1 hb
                  refine sr ?_
                  refine rq 1 (ob := (Ts 1 True)) (st' := (⟨87, [sI 6 (1 : Int), e33b62, e33b7 ret55v v72, e33b5 c3 v31 v72, e33b4 c3 v31 v72, sI 99 v12, sI 104 n2, e33b44, e33b45, e33b46, e33b47, e33b9 ret55v, e33b40, sI 130 v72, e33b8 c3 v31 v72, e33b16 c3 v31, e33b12 c3 v31, sI 187 v72, e33b48, e33b49, e33b50, e33b51, e33b52, e33b53, e33b60], [e33b15, e33b6 sign over, e33b28 i3, e33b14, e33b17 v31, e33b0 c3 v31, e33b13 c6, e33b18 out, e33b1 c0 c1 c2 c3 c4, e33b24 l404014]⟩ : St)) (by kernel_rfl) (tsI 1 trivial) ?_
                  refine nn ?_
                  refine aw_ret ?_
                  refine thenQ_r ?_
                  refine thenQ_r ?_
                  exact rest6 ((1 : Int), l404014) h
                 ·have h := h.2 hb
                  refine aw_skip ?_
                  refine thenQ_n ?_
                  refine sr ?_
                  refine rq 1 (ob := (Ts 1 True)) (st' := (⟨87, [sI 6 (0 : Int), e33b62, e33b7 ret55v v72, e33b5 c3 v31 v72, e33b4 c3 v31 v72, sI 99 v12, sI 104 n2, e33b44, e33b45, e33b46, e33b47, e33b9 ret55v, e33b40, sI 130 v72, e33b8 c3 v31 v72, e33b16 c3 v31, e33b12 c3 v31, sI 187 v72, e33b48, e33b49, e33b50, e33b51, e33b52, e33b53, e33b60], [e33b15, e33b6 sign over, e33b28 i3, e33b14, e33b17 v31, e33b0 c3 v31, e33b13 c6, e33b18 out, e33b1 c0 c1 c2 c3 c4, e33b24 l404014]⟩ : St)) (by kernel_rfl) (tsI 1 trivial) ?_
                  refine nn ?_
                  refine aw_ret ?_
                  refine thenQ_r ?_
                  exact rest6 ((0 : Int), l404014) h
                ·have h := h.2 hb
                 refine aw_skip ?_
                 refine thenQ_n ?_
                 refine sr ?_
                 refine rq 5 (ob := (Ts 5 True)) (st' := (⟨87, [e33b61, e33b10 c3 v31 v72 v12, sp 5 5, sp 7 7, e33b62, e33b7 ret55v v72, e33b5 c3 v31 v72, e33b4 c3 v31 v72, sI 99 v12, sI 104 n2, e33b44, e33b45, e33b46, e33b47, e33b9 ret55v, e33b40, sI 130 v72, e33b8 c3 v31 v72, e33b16 c3 v31, e33b12 c3 v31, sI 187 v72, e33b48, e33b49, e33b50, e33b51, e33b52, e33b53, e33b60], [e33b3 ret55v v72 v12, e33b2 c3 v31 v72 v12 ret55v, e33b15, e33b6 sign over, e33b28 i3, e33b14, e33b17 v31, e33b0 c3 v31, e33b13 c6, e33b18 out, e33b1 c0 c1 c2 c3 c4, e33b24 l404014]⟩ : St)) (by kernel_rfl) (tsI 5 trivial) ?_
                 refine nn ?_
                 refine aw_seq ?_
                 refine aw_seq ?_
                 refine awd_begin [] (by kernel_rfl) ?_
                 refine drq (by kernel_rfl) [0, 1, 2, 3, 4, 5, 6, 7, 8, 9, 10] (ob := (Ts 11 True)) (done' := [10, 9, 8, 7, 6, 5, 4, 3, 2, 1, 0]) (st' := (⟨87, [e33b61, e33b10 c3 v31 v72 v12, sp 5 5, sp 7 7, e33b58 l404014 c3 v31 v72 v12 ret55v, sB 9 ((mget l404014 ((-1 : Int), (((((c3.getD (v31).toNat ((0 : Int), ([] : LI))).2).drop ((v72 + (1 : Int))).toNat).getD (v12).toNat (0 : Int)), ((ret55v.drop ((v72 + (1 : Int))).toNat).getD (v12).toNat ((0 : Int), (0 : Int)))))).isSome), e33b62, e33b7 ret55v v72, e33b5 c3 v31 v72, e33b4 c3 v31 v72, sI 99 v12, sI 104 n2, e33b44, e33b45, e33b46, e33b47, e33b9 ret55v, e33b40, sI 130 v72, e33b8 c3 v31 v72, e33b16 c3 v31, e33b12 c3 v31, sI 187 v72, e33b48, e33b49, e33b50, e33b51, e33b52, e33b53, e33b60], [e33b3 ret55v v72 v12, e33b2 c3 v31 v72 v12 ret55v, e33b15, e33b6 sign over, e33b28 i3, e33b14, e33b17 v31, e33b0 c3 v31, e33b13 c6, e33b18 out, e33b1 c0 c1 c2 c3 c4, e33b24 l404014]⟩ : St)) (by kernel_rfl) (tsI 11 trivial) ?_
                 refine awd_done (by kernel_rfl) ?_
                 refine thenQ_n ?_
                 refine sr ?_
                 refine rq 1 (ob := (Ts 1 True)) (st' := (⟨87, [e33b61, e33b10 c3 v31 v72 v12, sp 5 5, sp 7 7, e33b58 l404014 c3 v31 v72 v12 ret55v, sB 50 ((mget l404014 ((-1 : Int), (((((c3.getD (v31).toNat ((0 : Int), ([] : LI))).2).drop ((v72 + (1 : Int))).toNat).getD (v12).toNat (0 : Int)), ((ret55v.drop ((v72 + (1 : Int))).toNat).getD (v12).toNat ((0 : Int), (0 : Int)))))).isSome), e33b62, e33b7 ret55v v72, e33b5 c3 v31 v72, e33b4 c3 v31 v72, sI 99 v12, sI 104 n2, e33b44, e33b45, e33b46, e33b47, e33b9 ret55v, e33b40, sI 130 v72, e33b8 c3 v31 v72, e33b16 c3 v31, e33b12 c3 v31, sI 187 v72, e33b48, e33b49, e33b50, e33b51, e33b52, e33b53, e33b60], [e33b3 ret55v v72 v12, e33b2 c3 v31 v72 v12 ret55v, e33b15, e33b6 sign over, e33b28 i3, e33b14, e33b17 v31, e33b0 c3 v31, e33b13 c6, e33b18 out, e33b1 c0 c1 c2 c3 c4, e33b24 l404014]⟩ : St)) (by kernel_rfl) (tsI 1 trivial) ?_
                 refine nn ?_
                 refine aw_cond (b := (mget l404014 ((-1 : Int), (((((c3.getD (v31).toNat ((0 : Int), ([] : LI))).2).drop ((v72 + (1 : Int))).toNat).getD (v12).toNat (0 : Int)), ((ret55v.drop ((v72 + (1 : Int))).toNat).getD (v12).toNat ((0 : Int), (0 : Int)))))).isSome) (by kernel_rfl) (fun hb => ?_) (fun hb => ?_)
                 ·have h := h.1 hb
                  refine sr ?_
                  refine rq 2 (ob := (Ts 2 True)) (st' := (⟨87, [sI 6 ((mget l404014 ((-1 : Int), (((((c3.getD (v31).toNat ((0 : Int), ([] : LI))).2).drop ((v72 + (1 : Int))).toNat).getD (v12).toNat (0 : Int)), ((ret55v.drop ((v72 + (1 : Int))).toNat).getD (v12).toNat ((0 : Int), (0 : Int)))))).getD (0 : Int)), e33b62, e33b7 ret55v v72, e33b5 c3 v31 v72, e33b4 c3 v31 v72, sI 99 v12, sI 104 n2, e33b44, e33b45, e33b46, e33b47, e33b9 ret55v, e33b40, sI 130 v72, e33b8 c3 v31 v72, e33b16 c3 v31, e33b12 c3 v31, sI 187 v72, e33b48, e33b49, e33b50, e33b51, e33b52, e33b53, e33b60], [e33b15, e33b6 sign over, e33b28 i3, e33b14, e33b17 v31, e33b0 c3 v31, e33b13 c6, e33b18 out, e33b1 c0 c1 c2 c3 c4, e33b24 l404014]⟩ : St)) (by kernel_rfl) (tsI 2 trivial) ?_
                  refine nn ?_
                  refine aw_ret ?_
                  refine thenQ_r ?_
                  exact rest6 (((mget l404014 ((-1 : Int), (((((c3.getD (v31).toNat ((0 : Int), ([] : LI))).2).drop ((v72 + (1 : Int))).toNat).getD (v12).toNat (0 : Int)), ((ret55v.drop ((v72 + (1 : Int))).toNat).getD (v12).toNat ((0 : Int), (0 : Int)))))).getD (0 : Int)), l404014) h
                 ·have h := h.2 hb
                  refine aw_skip ?_
                  refine thenQ_n ?_
                  refine sr ?_
                  refine rq 1 (ob := (Ts 1 True)) (st' := (⟨87, [e33b61, e33b10 c3 v31 v72 v12, sp 5 5, sp 7 7, sI 10 (0 : Int), e33b62, e33b7 ret55v v72, e33b5 c3 v31 v72, e33b4 c3 v31 v72, sI 99 v12, sI 104 n2, e33b44, e33b45, e33b46, e33b47, e33b9 ret55v, e33b40, sI 130 v72, e33b8 c3 v31 v72, e33b16 c3 v31, e33b12 c3 v31, sI 187 v72, e33b48, e33b49, e33b50, e33b51, e33b52, e33b53, e33b60], [e33b3 ret55v v72 v12, e33b2 c3 v31 v72 v12 ret55v, e33b15, e33b6 sign over, e33b28 i3, e33b14, e33b17 v31, e33b0 c3 v31, e33b13 c6, e33b18 out, e33b1 c0 c1 c2 c3 c4, e33b24 l404014]⟩ : St)) (by kernel_rfl) (tsI 1 trivial) ?_
                  refine nn ?_
                  refine aw_seq ?_
                  refine sr ?_
                  refine rq 7 (ob := (Ts 7 True)) (st' := (⟨87, [e33b61, e33b10 c3 v31 v72 v12, sp 5 5, sp 7 7, sI 10 (0 : Int), e33b21 c3, e33b57 c3, sI 58 (0 : Int), e33b62, e33b7 ret55v v72, e33b5 c3 v31 v72, e33b4 c3 v31 v72, sI 99 v12, sI 104 n2, e33b44, e33b45, e33b46, e33b47, e33b9 ret55v, e33b40, sI 130 v72, e33b8 c3 v31 v72, e33b16 c3 v31, e33b12 c3 v31, sI 187 v72, e33b48, e33b49, e33b50, e33b51, e33b52, e33b53, e33b60], [e33b3 ret55v v72 v12, e33b2 c3 v31 v72 v12 ret55v, e33b15, e33b6 sign over, e33b28 i3, e33b14, e33b17 v31, e33b0 c3 v31, e33b13 c6, e33b18 out, e33b1 c0 c1 c2 c3 c4, e33b24 l404014]⟩ : St)) (by kernel_rfl) (tsI 7 trivial) ?_
                  refine nn ?_
                  refine withJoin (σ := Int × (List ((Int × (Int × (Int × Int))) × Int))) (fun s => (⟨87, [e33b61, sp 7 7, sI 10 s.1, e33b62, e33b7 ret55v v72, e33b5 c3 v31 v72, e33b4 c3 v31 v72, sI 99 v12, sI 104 n2, e33b44, e33b45, e33b46, e33b47, e33b9 ret55v, e33b40, sI 130 v72, e33b8 c3 v31 v72, e33b16 c3 v31, e33b12 c3 v31, sI 187 v72, e33b48, e33b49, e33b50, e33b51, e33b52, e33b53, e33b60], [e33b2 c3 v31 v72 v12 ret55v, e33b15, e33b6 sign over, e33b28 i3, e33b14, e33b17 v31, e33b0 c3 v31, e33b13 c6, e33b18 out, e33b1 c0 c1 c2 c3 c4, (40401, [], .dict (.pr (.int .i64) t3) (.int .i64) s.2)]⟩ : St)) (fun s => VCc67_k8 c3 v31 ret55v v72 n2 v12 X3 s.1 s.2) (fun s h => ?_) (fun rest7 => ?_)
                  ·obtain ⟨n3, l404015⟩ := s
                   have h : VCc67_k8 c3 v31 ret55v v72 n2 v12 X3 n3 l404015 := h
                   unfold VCc67_k8 at h
                   refine thenQ_n ?_
                   refine aw_seq ?_
                   refine awd_begin [40401] (by kernel_rfl) ?_
                   refine drq (by kernel_rfl) [0, 1, 2, 3, 4, 5] (ob := (Ts 6 True)) (done' := [5, 4, 3, 2, 1, 0]) (st' := (⟨87, [sI 10 n3, s1 83 (.own 40401), e33b65 c3 v31 v72 v12 ret55v, sI 85 n3, e33b62, e33b7 ret55v v72, e33b5 c3 v31 v72, e33b4 c3 v31 v72, sI 99 v12, sI 104 n2, e33b44, e33b45, e33b46, e33b47, e33b9 ret55v, e33b40, sI 130 v72, e33b8 c3 v31 v72, e33b16 c3 v31, e33b12 c3 v31, sI 187 v72, e33b48, e33b49, e33b50, e33b51, e33b52, e33b53, e33b60], [e33b15, e33b6 sign over, e33b28 i3, e33b14, e33b17 v31, e33b0 c3 v31, e33b13 c6, e33b18 out, e33b1 c0 c1 c2 c3 c4, e33b41 l404015]⟩ : St)) (by kernel_rfl) (tsI 6 trivial) ?_
                   refine awd_one (i := 6) (by kernel_rfl) ?_
                   refine dsq (ob := True) (st' := (⟨87, [sI 10 n3, e33b62, e33b7 ret55v v72, e33b5 c3 v31 v72, e33b4 c3 v31 v72, sI 99 v12, sI 104 n2, e33b44, e33b45, e33b46, e33b47, e33b9 ret55v, e33b40, sI 130 v72, e33b8 c3 v31 v72, e33b16 c3 v31, e33b12 c3 v31, sI 187 v72, e33b48, e33b49, e33b50, e33b51, e33b52, e33b53, e33b60], [e33b15, e33b6 sign over, e33b28 i3, e33b14, e33b17 v31, e33b0 c3 v31, e33b13 c6, e33b18 out, e33b1 c0 c1 c2 c3 c4, e33b55 l404015 c3 v31 v72 v12 ret55v n3]⟩ : St)) rfl (by kernel_rfl) trivial ?_
                   refine awd_done (by kernel_rfl) ?_
                   refine thenQ_n ?_
                   refine sr ?_
                   refine rq 2 (ob := (Ts 2 True)) (st' := (⟨87, [sI 6 n3, e33b62, e33b7 ret55v v72, e33b5 c3 v31 v72, e33b4 c3 v31 v72, sI 99 v12, sI 104 n2, e33b44, e33b45, e33b46, e33b47, e33b9 ret55v, e33b40, sI 130 v72, e33b8 c3 v31 v72, e33b16 c3 v31, e33b12 c3 v31, sI 187 v72, e33b48, e33b49, e33b50, e33b51, e33b52, e33b53, e33b60], [e33b15, e33b6 sign over, e33b28 i3, e33b14, e33b17 v31, e33b0 c3 v31, e33b13 c6, e33b18 out, e33b1 c0 c1 c2 c3 c4, e33b55 l404015 c3 v31 v72 v12 ret55v n3]⟩ : St)) (by kernel_rfl) (tsI 2 trivial) ?_
                   refine nn ?_
                   refine aw_ret ?_
                   exact rest6 (n3, (mset l404015 ((-1 : Int), (((((c3.getD (v31).toNat ((0 : Int), ([] : LI))).2).drop ((v72 + (1 : Int))).toNat).getD (v12).toNat (0 : Int)), ((ret55v.drop ((v72 + (1 : Int))).toNat).getD (v12).toNat ((0 : Int), (0 : Int))))) n3)) h
                  ·refine aw_block ?_
                   refine aw_loop (σ := Int × Int × (List ((Int × (Int × (Int × Int))) × Int))) (fun s => (⟨87, [e33b61, e33b10 c3 v31 v72 v12, sp 5 5, sp 7 7, sI 10 s.1, e33b21 c3, e33b57 c3, sI 58 s.2.1, e33b62, e33b7 ret55v v72, e33b5 c3 v31 v72, e33b4 c3 v31 v72, sI 99 v12, sI 104 n2, e33b44, e33b45, e33b46, e33b47, e33b9 ret55v, e33b40, sI 130 v72, e33b8 c3 v31 v72, e33b16 c3 v31, e33b12 c3 v31, sI 187 v72, e33b48, e33b49, e33b50, e33b51, e33b52, e33b53, e33b60], [e33b3 ret55v v72 v12, e33b2 c3 v31 v72 v12 ret55v, e33b15, e33b6 sign over, e33b28 i3, e33b14, e33b17 v31, e33b0 c3 v31, e33b13 c6, e33b18 out, e33b1 c0 c1 c2 c3 c4, (40401, [], .dict (.pr (.int .i64) t3) (.int .i64) s.2.2)]⟩ : St)) (fun s X => VCc67_l4 c0 c1 c2 c3 c4 v31 ret55v v72 n2 v12 X3 s.1 s.2.1 s.2.2 X) (s0 := ((0 : Int), (0 : Int), l404014)) (fun s X4 h => ?_) h
                   obtain ⟨n3, v58, l404015⟩ := s
                   have h : VCc67_l4 c0 c1 c2 c3 c4 v31 ret55v v72 n2 v12 X3 n3 v58 l404015 X4 := h
                   unfold VCc67_l4 at h
                   refine sr ?_
                   refine rq 1 (ob := (Ts 1 True)) (st' := (⟨87, [e33b61, e33b10 c3 v31 v72 v12, sp 5 5, sp 7 7, sI 10 n3, e33b21 c3, e33b57 c3, sI 58 v58, sB 59 (decide (v58 < (c3.length : Int))), e33b62, e33b7 ret55v v72, e33b5 c3 v31 v72, e33b4 c3 v31 v72, sI 99 v12, sI 104 n2, e33b44, e33b45, e33b46, e33b47, e33b9 ret55v, e33b40, sI 130 v72, e33b8 c3 v31 v72, e33b16 c3 v31, e33b12 c3 v31, sI 187 v72, e33b48, e33b49, e33b50, e33b51, e33b52, e33b53, e33b60], [e33b3 ret55v v72 v12, e33b2 c3 v31 v72 v12 ret55v, e33b15, e33b6 sign over, e33b28 i3, e33b14, e33b17 v31, e33b0 c3 v31, e33b13 c6, e33b18 out, e33b1 c0 c1 c2 c3 c4, e33b41 l404015]⟩ : St)) (by kernel_rfl) (tsI 1 trivial) ?_
                   refine nn ?_
                   refine aw_seq ?_
                   refine aw_cond (b := (decide (v58 < (c3.length : Int)))) (by kernel_rfl) (fun hb => ?_) (fun hb => ?_)
                   ·have h := h.1 hb
                    refine aw_skip ?_
                    refine thenQ_n ?_
                    refine aw_seq ?_
                    refine aw_block ?_
                    refine sr ?_
                    obtain ⟨o1, h⟩ := h
                    refine rq 6 (ob := (Ts 1 (inIdx v58 c3.length ∧ Ts 4 True))) (st' := (⟨87, [e33b61, e33b10 c3 v31 v72 v12, sp 5 5, sp 7 7, sI 10 n3, sI 11 v58, sp 12 12, e33b21 c3, e33b57 c3, sI 58 v58, e33b62, e33b7 ret55v v72, e33b5 c3 v31 v72, e33b4 c3 v31 v72, sI 99 v12, sI 104 n2, e33b44, e33b45, e33b46, e33b47, e33b9 ret55v, e33b40, sI 130 v72, e33b8 c3 v31 v72, e33b16 c3 v31, e33b12 c3 v31, sI 187 v72, e33b48, e33b49, e33b50, e33b51, e33b52, e33b53, e33b60], [e33b3 ret55v v72 v12, e33b2 c3 v31 v72 v12 ret55v, e33b108 c3 v58, e33b15, e33b6 sign over, e33b28 i3, e33b14, e33b17 v31, e33b0 c3 v31, e33b13 c6, e33b18 out, e33b1 c0 c1 c2 c3 c4, e33b41 l404015]⟩ : St)) (by kernel_rfl) (tsI 1 ⟨o1, tsI 4 trivial⟩) ?_
                    refine nn ?_
                    refine aw_seq ?_
                    refine awd_begin [] (by kernel_rfl) ?_
                    obtain ⟨o1, h⟩ := h
                    refine drq (by kernel_rfl) [0, 1, 2, 3, 4, 5, 6, 7, 8, 9] (ob := (Ts 8 (InR (((((c3.getD (v31).toNat ((0 : Int), ([] : LI))).2).drop ((v72 + (1 : Int))).toNat).getD (v12).toNat (0 : Int)) - c0) ∧ Ts 1 True))) (done' := [9, 8, 7, 6, 5, 4, 3, 2, 1, 0]) (st' := (⟨87, [e33b61, e33b10 c3 v31 v72 v12, sp 5 5, sp 7 7, sI 10 n3, sI 11 v58, e33b21 c3, e33b57 c3, sI 58 v58, e33b103 c3 v58 v31 v72 v12 c0, e33b62, e33b7 ret55v v72, e33b5 c3 v31 v72, e33b4 c3 v31 v72, sI 99 v12, sI 104 n2, e33b44, e33b45, e33b46, e33b47, e33b9 ret55v, e33b40, sI 130 v72, e33b8 c3 v31 v72, e33b16 c3 v31, e33b12 c3 v31, sI 187 v72, e33b48, e33b49, e33b50, e33b51, e33b52, e33b53, e33b60], [e33b3 ret55v v72 v12, e33b2 c3 v31 v72 v12 ret55v, e33b15, e33b6 sign over, e33b28 i3, e33b14, e33b17 v31, e33b0 c3 v31, e33b13 c6, e33b18 out, e33b1 c0 c1 c2 c3 c4, e33b41 l404015]⟩ : St)) (by kernel_rfl) (tsI 8 ⟨o1, tsI 1 trivial⟩) ?_
                    refine awd_done (by kernel_rfl) ?_
                    refine thenQ_n ?_
                    refine withJoin (σ := Int × (List ((Int × (Int × (Int × Int))) × Int))) (fun s => (⟨87, [e33b122, e33b10 c3 v31 v72 v12, sp 5 5, sp 7 7, sI 10 s.1, e33b21 c3, e33b57 c3, sI 58 v58, e33b117, e33b7 ret55v v72, e33b5 c3 v31 v72, e33b4 c3 v31 v72, sI 99 v12, sI 104 n2, e33b44, e33b45, e33b46, e33b47, e33b9 ret55v, e33b40, sI 130 v72, e33b8 c3 v31 v72, e33b16 c3 v31, e33b12 c3 v31, sI 187 v72, e33b48, e33b49, e33b50, e33b51, e33b52, e33b53, e33b114], [e33b3 ret55v v72 v12, e33b2 c3 v31 v72 v12 ret55v, e33b71, e33b6 sign over, e33b28 i3, e33b14, e33b17 v31, e33b0 c3 v31, e33b13 c6, e33b18 out, e33b22 c0 c1 c2 c3 c4, (40201, [], .dict (.pr (.int .i64) t3) (.int .i64) s.2)]⟩ : St)) (fun s => VCc67_k9 v58 X4 s.1 s.2) (fun s h => ?_) (fun rest8 => ?_)
                    ·obtain ⟨n4, l40201⟩ := s
                     have h : VCc67_k9 v58 X4 n4 l40201 := h
                     unfold VCc67_k9 at h
                     refine blockQ_n ?_
                     refine thenQ_n ?_
                     refine aw_region ?_
                     obtain ⟨o1, h⟩ := h
                     refine rq 2 (ob := (InR (v58 + (1 : Int)) ∧ Ts 1 True)) (st' := (⟨87, [e33b122, e33b10 c3 v31 v72 v12, sp 5 5, sp 7 7, sI 10 n4, e33b21 c3, e33b57 c3, sI 58 (v58 + (1 : Int)), e33b117, e33b7 ret55v v72, e33b5 c3 v31 v72, e33b4 c3 v31 v72, sI 99 v12, sI 104 n2, e33b44, e33b45, e33b46, e33b47, e33b9 ret55v, e33b40, sI 130 v72, e33b8 c3 v31 v72, e33b16 c3 v31, e33b12 c3 v31, sI 187 v72, e33b48, e33b49, e33b50, e33b51, e33b52, e33b53, e33b114], [e33b3 ret55v v72 v12, e33b2 c3 v31 v72 v12 ret55v, e33b71, e33b6 sign over, e33b28 i3, e33b14, e33b17 v31, e33b0 c3 v31, e33b13 c6, e33b18 out, e33b22 c0 c1 c2 c3 c4, (40201, [], .dict (.pr (.int .i64) t3) (.int .i64) l40201)]⟩ : St)) (by kernel_rfl) (⟨o1, tsI 1 trivial⟩) ?_
                     refine awl_conv [.ren 40200 60200, .ren 40201 60201, .ren 60200 40400, .ren 60201 40401] (st' := (⟨87, [e33b61, e33b10 c3 v31 v72 v12, sp 5 5, sp 7 7, sI 10 n4, e33b21 c3, e33b57 c3, sI 58 (v58 + (1 : Int)), e33b62, e33b7 ret55v v72, e33b5 c3 v31 v72, e33b4 c3 v31 v72, sI 99 v12, sI 104 n2, e33b44, e33b45, e33b46, e33b47, e33b9 ret55v, e33b40, sI 130 v72, e33b8 c3 v31 v72, e33b16 c3 v31, e33b12 c3 v31, sI 187 v72, e33b48, e33b49, e33b50, e33b51, e33b52, e33b53, e33b60], [e33b3 ret55v v72 v12, e33b2 c3 v31 v72 v12 ret55v, e33b15, e33b6 sign over, e33b28 i3, e33b14, e33b17 v31, e33b0 c3 v31, e33b13 c6, e33b18 out, e33b1 c0 c1 c2 c3 c4, (40401, [], .dict (.pr (.int .i64) t3) (.int .i64) l40201)]⟩ : St)) (by kernel_rfl) ?_
                     refine awl_nil ?_
                     exact thenQ_n ⟨(n4, (v58 + (1 : Int)), l40201), rfl, h⟩
                    ·refine aw_cond (b := (decide ((c3.getD (v58).toNat ((0 : Int), ([] : LI))).1 = (((((c3.getD (v31).toNat ((0 : Int), ([] : LI))).2).drop ((v72 + (1 : Int))).toNat).getD (v12).toNat (0 : Int)) - c0)))) (by kernel_rfl) (fun hb => ?_) (fun hb => ?_)
                     ·have h := h.1 hb
                      refine aw_region ?_
                      refine rq 4 (ob := (Ts 4 True)) (st' := (⟨87, [e33b61, e33b10 c3 v31 v72 v12, sp 5 5, sp 7 7, e33b21 c3, e33b57 c3, sI 58 v58, sI 73 n3, sp 74 40400, sI 75 v58, e33b54 ret55v v72 v12, e33b62, e33b7 ret55v v72, e33b5 c3 v31 v72, e33b4 c3 v31 v72, sI 99 v12, sI 104 n2, e33b44, e33b45, e33b46, e33b47, e33b9 ret55v, e33b40, sI 130 v72, e33b8 c3 v31 v72, e33b16 c3 v31, e33b12 c3 v31, sI 187 v72, e33b48, e33b49, e33b50, e33b51, e33b52, e33b53, e33b60], [e33b3 ret55v v72 v12, e33b2 c3 v31 v72 v12 ret55v, e33b15, e33b6 sign over, e33b28 i3, e33b14, e33b17 v31, e33b0 c3 v31, e33b13 c6, e33b18 out, e33b1 c0 c1 c2 c3 c4, e33b41 l404015]⟩ : St)) (by kernel_rfl) (tsI 4 trivial) ?_
                      refine awl_conv [.ren 40400 40200, .ren 40401 40201] (st' := (⟨87, [e33b122, e33b10 c3 v31 v72 v12, sp 5 5, sp 7 7, e33b21 c3, e33b57 c3, sI 58 v58, sI 73 n3, sp 74 40200, sI 75 v58, e33b54 ret55v v72 v12, e33b117, e33b7 ret55v v72, e33b5 c3 v31 v72, e33b4 c3 v31 v72, sI 99 v12, sI 104 n2, e33b44, e33b45, e33b46, e33b47, e33b9 ret55v, e33b40, sI 130 v72, e33b8 c3 v31 v72, e33b16 c3 v31, e33b12 c3 v31, sI 187 v72, e33b48, e33b49, e33b50, e33b51, e33b52, e33b53, e33b114], [e33b3 ret55v v72 v12, e33b2 c3 v31 v72 v12 ret55v, e33b71, e33b6 sign over, e33b28 i3, e33b14, e33b17 v31, e33b0 c3 v31, e33b13 c6, e33b18 out, e33b22 c0 c1 c2 c3 c4, e33b123 l404015]⟩ : St)) (by kernel_rfl) ?_
                      refine awl_lcall (σ := Int × (List ((Int × (Int × (Int × Int))) × Int))) [40200, 40201] [40200] [.c (.ptr 40200 0), .c (.pI v58), .c (.pI (0 : Int)), .agg [.pI (((ret55v.drop ((v72 + (1 : Int))).toNat).getD (v12).toNat ((0 : Int), (0 : Int))).1), .pI (((ret55v.drop ((v72 + (1 : Int))).toNat).getD (v12).toNat ((0 : Int), (0 : Int))).2)]] [] (fun ret77v => .v (.c (.pI ret77v.1))) (fun ret77v => [hB 40200 [.pI c0, .pI c1, .pI c2, .p (.sl (.pr (.int .i64) (.sl (.int .i64)))) c3, .pS c4, .own 40201], (40201, [], .dict (.pr (.int .i64) t3) (.int .i64) ret77v.2)]) (fun (ret77v : Int × (List ((Int × (Int × (Int × Int))) × Int))) => VC109 n3 ret77v.1 (fun (ret78v : Int) => VCc67_k9 v58 X4 ret78v ret77v.2)) [hB 40200 [.pI c0, .pI c1, .pI c2, .p (.sl (.pr (.int .i64) (.sl (.int .i64)))) c3, .pS c4, .own 40201], (40201, [], .dict (.pr (.int .i64) t3) (.int .i64) l404015)] (fun ret77v => (⟨87, [sI 77 ret77v.1, e33b122, e33b10 c3 v31 v72 v12, sp 5 5, sp 7 7, e33b21 c3, e33b57 c3, sI 58 v58, sI 73 n3, sp 74 40200, sI 75 v58, e33b54 ret55v v72 v12, e33b117, e33b7 ret55v v72, e33b5 c3 v31 v72, e33b4 c3 v31 v72, sI 99 v12, sI 104 n2, e33b44, e33b45, e33b46, e33b47, e33b9 ret55v, e33b40, sI 130 v72, e33b8 c3 v31 v72, e33b16 c3 v31, e33b12 c3 v31, sI 187 v72, e33b48, e33b49, e33b50, e33b51, e33b52, e33b53, e33b114], [e33b22 c0 c1 c2 c3 c4, e33b63 ret77v, e33b3 ret55v v72 v12, e33b2 c3 v31 v72 v12 ret55v, e33b71, e33b6 sign over, e33b28 i3, e33b14, e33b17 v31, e33b0 c3 v31, e33b13 c6, e33b18 out]⟩ : St)) rfl rfl (by kernel_rfl) rfl (by kernel_rfl) Try.call100 (by kernel_rfl) (by kernel_rfl) (by kernel_rfl) (fun _ _ => rfl) (fun _ => by kernel_rfl) (linkcr100 c0 c1 c2 c3 c4 v58 (0 : Int) (((ret55v.drop ((v72 + (1 : Int))).toNat).getD (v12).toNat ((0 : Int), (0 : Int))).1) (((ret55v.drop ((v72 + (1 : Int))).toNat).getD (v12).toNat ((0 : Int), (0 : Int))).2) l404015 _ h) (fun ret77v h => ?_)
                      refine lpr (st' := (⟨87, [e33b122, e33b10 c3 v31 v72 v12, sp 5 5, sp 7 7, e33b21 c3, e33b57 c3, sI 58 v58, sI 73 n3, sI 77 ret77v.1, e33b117, e33b7 ret55v v72, e33b5 c3 v31 v72, e33b4 c3 v31 v72, sI 99 v12, sI 104 n2, e33b44, e33b45, e33b46, e33b47, e33b9 ret55v, e33b40, sI 130 v72, e33b8 c3 v31 v72, e33b16 c3 v31, e33b12 c3 v31, sI 187 v72, e33b48, e33b49, e33b50, e33b51, e33b52, e33b53, e33b114], [e33b3 ret55v v72 v12, e33b2 c3 v31 v72 v12 ret55v, e33b71, e33b6 sign over, e33b28 i3, e33b14, e33b17 v31, e33b0 c3 v31, e33b13 c6, e33b18 out, e33b22 c0 c1 c2 c3 c4, e33b63 ret77v]⟩ : St)) (by kernel_rfl) ?_
                      refine lcq (d := 78) [.d (.int .i64), .d (.int .i64)] (fun ret78v => (⟨87, [e33b122, e33b10 c3 v31 v72 v12, sp 5 5, sp 7 7, e33b21 c3, e33b57 c3, sI 58 v58, sI 78 ret78v, e33b117, e33b7 ret55v v72, e33b5 c3 v31 v72, e33b4 c3 v31 v72, sI 99 v12, sI 104 n2, e33b44, e33b45, e33b46, e33b47, e33b9 ret55v, e33b40, sI 130 v72, e33b8 c3 v31 v72, e33b16 c3 v31, e33b12 c3 v31, sI 187 v72, e33b48, e33b49, e33b50, e33b51, e33b52, e33b53, e33b114], [e33b3 ret55v v72 v12, e33b2 c3 v31 v72 v12 ret55v, e33b71, e33b6 sign over, e33b28 i3, e33b14, e33b17 v31, e33b0 c3 v31, e33b13 c6, e33b18 out, e33b22 c0 c1 c2 c3 c4, e33b63 ret77v]⟩ : St)) (by kernel_rfl) Try.call109 (fun _ => by kernel_rfl) (link109 n3 ret77v.1 _ h) (fun ret78v h => ?_)
                      refine rq 1 (ob := (Ts 1 True)) (st' := (⟨87, [e33b122, e33b10 c3 v31 v72 v12, sp 5 5, sp 7 7, sI 10 ret78v, e33b21 c3, e33b57 c3, sI 58 v58, e33b117, e33b7 ret55v v72, e33b5 c3 v31 v72, e33b4 c3 v31 v72, sI 99 v12, sI 104 n2, e33b44, e33b45, e33b46, e33b47, e33b9 ret55v, e33b40, sI 130 v72, e33b8 c3 v31 v72, e33b16 c3 v31, e33b12 c3 v31, sI 187 v72, e33b48, e33b49, e33b50, e33b51, e33b52, e33b53, e33b114], [e33b3 ret55v v72 v12, e33b2 c3 v31 v72 v12 ret55v, e33b71, e33b6 sign over, e33b28 i3, e33b14, e33b17 v31, e33b0 c3 v31, e33b13 c6, e33b18 out, e33b22 c0 c1 c2 c3 c4, e33b63 ret77v]⟩ : St)) (by kernel_rfl) (tsI 1 trivial) ?_
                      refine awl_nil ?_
                      exact rest8 (ret78v, ret77v.2) h
                     ·have h := h.2 hb
                      refine aw_conv [.prune [0, 1, 5, 7, 10, 56, 57, 58, 87, 89, 97, 98, 99, 104, 119, 122, 123, 125, 127, 129, 130, 131, 185, 186, 187, 221, 222, 223, 224, 225, 226, 227] [5, 7, 30000, 30001, 30002, 30003, 30004, 30005, 30006, 30400, 40400, 40401], .ren 40400 60400, .ren 40401 60401, .ren 60400 40200, .ren 60401 40201] (st' := (⟨87, [e33b122, e33b10 c3 v31 v72 v12, sp 5 5, sp 7 7, sI 10 n3, e33b21 c3, e33b57 c3, sI 58 v58, e33b117, e33b7 ret55v v72, e33b5 c3 v31 v72, e33b4 c3 v31 v72, sI 99 v12, sI 104 n2, e33b44, e33b45, e33b46, e33b47, e33b9 ret55v, e33b40, sI 130 v72, e33b8 c3 v31 v72, e33b16 c3 v31, e33b12 c3 v31, sI 187 v72, e33b48, e33b49, e33b50, e33b51, e33b52, e33b53, e33b114], [e33b3 ret55v v72 v12, e33b2 c3 v31 v72 v12 ret55v, e33b71, e33b6 sign over, e33b28 i3, e33b14, e33b17 v31, e33b0 c3 v31, e33b13 c6, e33b18 out, e33b22 c0 c1 c2 c3 c4, e33b123 l404015]⟩ : St)) (by kernel_rfl) ?_
                      refine aw_skip ?_
                      exact rest8 (n3, l404015) h
                   ·have h := h.2 hb
                    refine cpr (st' := (⟨87, [e33b61, sp 7 7, sI 10 n3, e33b62, e33b7 ret55v v72, e33b5 c3 v31 v72, e33b4 c3 v31 v72, sI 99 v12, sI 104 n2, e33b44, e33b45, e33b46, e33b47, e33b9 ret55v, e33b40, sI 130 v72, e33b8 c3 v31 v72, e33b16 c3 v31, e33b12 c3 v31, sI 187 v72, e33b48, e33b49, e33b50, e33b51, e33b52, e33b53, e33b60], [e33b2 c3 v31 v72 v12 ret55v, e33b15, e33b6 sign over, e33b28 i3, e33b14, e33b17 v31, e33b0 c3 v31, e33b13 c6, e33b18 out, e33b1 c0 c1 c2 c3 c4, e33b41 l404015]⟩ : St)) (by kernel_rfl) ?_
                    refine aw_exit ?_
                    refine thenQ_x ?_
                    refine thenQ_x ?_
                    refine blockQ_hit ?_
                    exact rest7 (n3, l404015) h
              ·have h := h.2 hb
               refine cpr (st' := (⟨28, [sI 7 n2, e33b82, e33b83, e33b84, e33b85, e33b23 ret55v, e33b80, sI 43 v72, e33b20 c3 v31 v72, e33b33 c3 v31, e33b26 c3 v31, sI 100 v72, e33b72, e33b73, e33b74, e33b75, e33b76, e33b77, e33b78], [e33b15, e33b6 sign over, e33b28 i3, e33b14, e33b17 v31, e33b0 c3 v31, e33b13 c6, e33b18 out, e33b1 c0 c1 c2 c3 c4, e33b24 l404014]⟩ : St)) (by kernel_rfl) ?_
               refine aw_exit ?_
               refine thenQ_x ?_
               refine thenQ_x ?_
               refine blockQ_hit ?_
               exact rest5 (n2, l404014) h
            ·have h := h.2
             refine dsq (ob := True) (st' := (⟨106, [e33b101, e33b102, e33b95, e33b94, e33b37 ret55v, e33b113, sI 15 v72, e33b42 c3 v31 v72, e33b38 c3 v31, e33b34 c3 v31, sI 72 v72, s1 79 (.pS ((c3.getD (v31).toNat ((0 : Int), ([] : LI))).2)), sI 81 (v72 + (1 : Int)), e33b68 ret55v v72, e33b86, e33b87, e33b88, e33b89, e33b90, e33b91, e33b81], [e33b15, e33b6 sign over, e33b28 i3, e33b14, e33b17 v31, e33b0 c3 v31, e33b13 c6, e33b18 out, e33b1 c0 c1 c2 c3 c4, e33b31 l404013]⟩ : St)) rfl (by kernel_rfl) trivial ?_
             obtain ⟨o1, h⟩ := h
             refine drq (by kernel_rfl) [5] (ob := ((0 ≤ (v72 + (1 : Int)) ∧ (v72 + (1 : Int)) ≤ (((c3.getD (v31).toNat ((0 : Int), ([] : LI))).2).length : Int)) ∧ True)) (done' := [5, 2, 9, 8, 7, 6, 4, 3, 1]) (st' := (⟨106, [e33b101, e33b102, e33b95, e33b94, e33b37 ret55v, e33b113, sI 15 v72, e33b42 c3 v31 v72, e33b38 c3 v31, e33b34 c3 v31, sI 72 v72, e33b115 c3 v31 v72, e33b68 ret55v v72, e33b86, e33b87, e33b88, e33b89, e33b90, e33b91, e33b81], [e33b15, e33b6 sign over, e33b28 i3, e33b14, e33b17 v31, e33b0 c3 v31, e33b13 c6, e33b18 out, e33b1 c0 c1 c2 c3 c4, e33b31 l404013]⟩ : St)) (by kernel_rfl) (⟨o1, trivial⟩) ?_
             refine awd_one (i := 0) (by kernel_rfl) ?_
             refine dsq (ob := True) (st' := (⟨106, [e33b101, e33b102, e33b95, e33b94, e33b37 ret55v, e33b113, sI 15 v72, e33b42 c3 v31 v72, e33b38 c3 v31, e33b34 c3 v31, sI 72 v72, sp 77 40400, e33b115 c3 v31 v72, e33b68 ret55v v72, e33b86, e33b87, e33b88, e33b89, e33b90, e33b91, e33b81], [e33b15, e33b6 sign over, e33b28 i3, e33b14, e33b17 v31, e33b0 c3 v31, e33b13 c6, e33b18 out, e33b1 c0 c1 c2 c3 c4, e33b31 l404013]⟩ : St)) rfl (by kernel_rfl) trivial ?_
             refine awd_one (i := 10) (by kernel_rfl) ?_
             refine adop_inlr [.t 6] [.c (.ptr 40400 0), .c (.pS (((c3.getD (v31).toNat ((0 : Int), ([] : LI))).2).drop ((v72 + (1 : Int))).toNat)), .c (.p (.sl (.pr (.int .i64) (.int .i64))) (ret55v.drop ((v72 + (1 : Int))).toNat))] [] rfl rfl rfl (by kernel_rfl) rfl (by kernel_rfl) Try.call98 (by kernel_rfl) (by kernel_rfl) Try.func98 rfl rfl (by kernel_rfl) ?_
             refine aw_conv [] (st' := (⟨28, [e33b61, e33b70 c3 v31 v72, e33b27 ret55v v72, e33b82, e33b83, e33b84, e33b85, e33b23 ret55v, e33b80, sI 43 v72, e33b20 c3 v31 v72, e33b33 c3 v31, e33b26 c3 v31, sI 100 v72, sp 105 40400, s1 110 (.pS (((c3.getD (v31).toNat ((0 : Int), ([] : LI))).2).drop ((v72 + (1 : Int))).toNat)), s1 114 (.p (.sl (.pr (.int .i64) (.int .i64))) (ret55v.drop ((v72 + (1 : Int))).toNat)), e33b72, e33b73, e33b74, e33b75, e33b76, e33b77, e33b78], [e33b15, e33b6 sign over, e33b28 i3, e33b14, e33b17 v31, e33b0 c3 v31, e33b13 c6, e33b18 out, e33b1 c0 c1 c2 c3 c4, e33b31 l404013]⟩ : St)) (by kernel_rfl) ?_
             refine sr ?_
             refine rq 1 (ob := (Ts 1 True)) (st' := (⟨28, [e33b61, e33b70 c3 v31 v72, e33b27 ret55v v72, e33b82, e33b83, e33b84, e33b85, e33b23 ret55v, e33b80, sI 43 v72, e33b20 c3 v31 v72, e33b33 c3 v31, e33b26 c3 v31, sI 100 v72, e33b72, e33b73, e33b74, e33b75, e33b76, e33b77, e33b78], [e33b15, e33b6 sign over, e33b28 i3, e33b14, e33b17 v31, e33b0 c3 v31, e33b13 c6, e33b18 out, e33b1 c0 c1 c2 c3 c4, e33b31 l404013]⟩ : St)) (by kernel_rfl) (tsI 1 trivial) ?_
             refine nsr ?_
             refine rq 1 (ob := (Ts 1 True)) (st' := (⟨28, [e33b61, e33b70 c3 v31 v72, e33b27 ret55v v72, sI 7 (1 : Int), e33b82, e33b83, e33b84, e33b85, e33b23 ret55v, e33b80, sI 43 v72, e33b20 c3 v31 v72, e33b33 c3 v31, e33b26 c3 v31, sI 100 v72, e33b72, e33b73, e33b74, e33b75, e33b76, e33b77, e33b78], [e33b15, e33b6 sign over, e33b28 i3, e33b14, e33b17 v31, e33b0 c3 v31, e33b13 c6, e33b18 out, e33b1 c0 c1 c2 c3 c4, e33b31 l404013]⟩ : St)) (by kernel_rfl) (tsI 1 trivial) ?_
             refine nn ?_
             refine aw_seq ?_
             refine sr ?_
             refine rq 3 (ob := (Ts 3 True)) (st' := (⟨28, [e33b61, e33b27 ret55v v72, sI 7 (1 : Int), e33b36 c3 v31 v72, e33b30 c3 v31 v72, sI 12 (0 : Int), e33b82, e33b83, e33b84, e33b85, e33b23 ret55v, e33b80, sI 43 v72, e33b20 c3 v31 v72, e33b33 c3 v31, e33b26 c3 v31, sI 100 v72, e33b72, e33b73, e33b74, e33b75, e33b76, e33b77, e33b78], [e33b15, e33b6 sign over, e33b28 i3, e33b14, e33b17 v31, e33b0 c3 v31, e33b13 c6, e33b18 out, e33b1 c0 c1 c2 c3 c4, e33b31 l404013]⟩ : St)) (by kernel_rfl) (tsI 3 trivial) ?_
             refine nn ?_
             refine withJoin (σ := Int × (List ((Int × (Int × (Int × Int))) × Int))) (fun s => (⟨28, [sI 7 s.1, e33b82, e33b83, e33b84, e33b85, e33b23 ret55v, e33b80, sI 43 v72, e33b20 c3 v31 v72, e33b33 c3 v31, e33b26 c3 v31, sI 100 v72, e33b72, e33b73, e33b74, e33b75, e33b76, e33b77, e33b78], [e33b15, e33b6 sign over, e33b28 i3, e33b14, e33b17 v31, e33b0 c3 v31, e33b13 c6, e33b18 out, e33b1 c0 c1 c2 c3 c4, (40401, [], .dict (.pr (.int .i64) t3) (.int .i64) s.2)]⟩ : St)) (fun s => VCc67_k10 c3 R v31 ret55v v72 out i3 X2 s.1 s.2) (fun s h => ?_) (fun rest9 => ?_)
             ·obtain ⟨n2, l404014⟩ := s
              have h : VCc67_k10 c3 R v31 ret55v v72 out i3 X2 n2 l404014 := h
              unfold VCc67_k10 at h
              refine thenQ_n ?_
              refine sr ?_
              refine rq 2 (ob := (Ts 2 True)) (st' := (⟨28, [sI 6 n2, e33b82, e33b83, e33b84, e33b85, e33b23 ret55v, e33b80, sI 43 v72, e33b20 c3 v31 v72, e33b33 c3 v31, e33b26 c3 v31, sI 100 v72, e33b72, e33b73, e33b74, e33b75, e33b76, e33b77, e33b78], [e33b15, e33b6 sign over, e33b28 i3, e33b14, e33b17 v31, e33b0 c3 v31, e33b13 c6, e33b18 out, e33b1 c0 c1 c2 c3 c4, e33b24 l404014]⟩ : St)) (by kernel_rfl) (tsI 2 trivial) ?_
              refine nn ?_
              refine aw_ret ?_
              refine inlR_r (ob := True) (.v (.c (.pI n2))) (by kernel_rfl) trivial rfl ?_
              refine dpr (st' := (⟨106, [e33b101, e33b102, e33b95, e33b94, e33b37 ret55v, e33b113, sI 15 v72, e33b42 c3 v31 v72, e33b38 c3 v31, e33b34 c3 v31, sI 72 v72, sI 87 n2, e33b86, e33b87, e33b88, e33b89, e33b90, e33b91, e33b81], [e33b15, e33b6 sign over, e33b28 i3, e33b14, e33b17 v31, e33b0 c3 v31, e33b13 c6, e33b18 out, e33b1 c0 c1 c2 c3 c4, e33b24 l404014]⟩ : St)) (by kernel_rfl) ?_
              refine drq (by kernel_rfl) [11] (ob := (Ts 1 True)) (done' := [11, 10, 0, 5, 2, 9, 8, 7, 6, 4, 3, 1]) (st' := (⟨106, [e33b101, e33b102, e33b95, e33b94, e33b37 ret55v, e33b113, sI 15 v72, e33b42 c3 v31 v72, sI 17 n2, e33b38 c3 v31, e33b34 c3 v31, sI 72 v72, e33b86, e33b87, e33b88, e33b89, e33b90, e33b91, e33b81], [e33b15, e33b6 sign over, e33b28 i3, e33b14, e33b17 v31, e33b0 c3 v31, e33b13 c6, e33b18 out, e33b1 c0 c1 c2 c3 c4, e33b24 l404014]⟩ : St)) (by kernel_rfl) (tsI 1 trivial) ?_
              refine awd_done (by kernel_rfl) ?_
              exact rest4 (n2, l404014) h
             ·refine aw_block ?_
              refine aw_loop (σ := Int × Int × (List ((Int × (Int × (Int × Int))) × Int))) (fun s => (⟨28, [e33b61, e33b27 ret55v v72, sI 7 s.1, e33b36 c3 v31 v72, e33b30 c3 v31 v72, sI 12 s.2.1, e33b82, e33b83, e33b84, e33b85, e33b23 ret55v, e33b80, sI 43 v72, e33b20 c3 v31 v72, e33b33 c3 v31, e33b26 c3 v31, sI 100 v72, e33b72, e33b73, e33b74, e33b75, e33b76, e33b77, e33b78], [e33b15, e33b6 sign over, e33b28 i3, e33b14, e33b17 v31, e33b0 c3 v31, e33b13 c6, e33b18 out, e33b1 c0 c1 c2 c3 c4, (40401, [], .dict (.pr (.int .i64) t3) (.int .i64) s.2.2)]⟩ : St)) (fun s X => VCc67_l5 c0 c1 c2 c3 c4 R v31 ret55v v72 out i3 X2 s.1 s.2.1 s.2.2 X) (s0 := ((1 : Int), (0 : Int), l404013)) (fun s X5 h => ?_) h
              obtain ⟨n2, v12, l404014⟩ := s
              have h : VCc67_l5 c0 c1 c2 c3 c4 R v31 ret55v v72 out i3 X2 n2 v12 l404014 X5 := h
              unfold VCc67_l5 at h
              refine sr ?_
              refine rq 1 (ob := (Ts 1 True)) (st' := (⟨28, [e33b61, e33b27 ret55v v72, sI 7 n2, e33b36 c3 v31 v72, e33b30 c3 v31 v72, sI 12 v12, sB 13 (decide (v12 < ((((c3.getD (v31).toNat ((0 : Int), ([] : LI))).2).drop ((v72 + (1 : Int))).toNat).length : Int))), e33b82, e33b83, e33b84, e33b85, e33b23 ret55v, e33b80, sI 43 v72, e33b20 c3 v31 v72, e33b33 c3 v31, e33b26 c3 v31, sI 100 v72, e33b72, e33b73, e33b74, e33b75, e33b76, e33b77, e33b78], [e33b15, e33b6 sign over, e33b28 i3, e33b14, e33b17 v31, e33b0 c3 v31, e33b13 c6, e33b18 out, e33b1 c0 c1 c2 c3 c4, e33b24 l404014]⟩ : St)) (by kernel_rfl) (tsI 1 trivial) ?_
              refine nn ?_
              refine aw_seq ?_
              refine aw_cond (b := (decide (v12 < ((((c3.getD (v31).toNat ((0 : Int), ([] : LI))).2).drop ((v72 + (1 : Int))).toNat).length : Int)))) (by kernel_rfl) (fun hb => ?_) (fun hb => ?_)
              ·have h := h.1 hb
               refine aw_skip ?_
               refine thenQ_n ?_
               refine aw_seq ?_
               refine aw_block ?_
               refine sr ?_
               obtain ⟨o1, h⟩ := h
               refine rq 5 (ob := (Ts 1 (inIdx v12 (((c3.getD (v31).toNat ((0 : Int), ([] : LI))).2).drop ((v72 + (1 : Int))).toNat).length ∧ Ts 3 True))) (st' := (⟨28, [e33b61, e33b27 ret55v v72, sI 7 n2, sI 8 v12, sI 9 ((((c3.getD (v31).toNat ((0 : Int), ([] : LI))).2).drop ((v72 + (1 : Int))).toNat).getD (v12).toNat (0 : Int)), e33b36 c3 v31 v72, e33b30 c3 v31 v72, sI 12 v12, e33b82, e33b83, e33b84, e33b85, e33b23 ret55v, e33b80, sI 43 v72, e33b20 c3 v31 v72, e33b33 c3 v31, e33b26 c3 v31, sI 100 v72, e33b72, e33b73, e33b74, e33b75, e33b76, e33b77, e33b78], [e33b15, e33b6 sign over, e33b28 i3, e33b14, e33b17 v31, e33b0 c3 v31, e33b13 c6, e33b18 out, e33b1 c0 c1 c2 c3 c4, e33b24 l404014]⟩ : St)) (by kernel_rfl) (tsI 1 ⟨o1, tsI 3 trivial⟩) ?_
               refine nn ?_
               refine aw_region ?_
               obtain ⟨o1, h⟩ := h
               refine rq 7 (ob := (Ts 5 (inIdx v12 (ret55v.drop ((v72 + (1 : Int))).toNat).length ∧ Ts 1 True))) (st' := (⟨28, [e33b61, e33b27 ret55v v72, e33b36 c3 v31 v72, e33b30 c3 v31 v72, sI 12 v12, sI 17 n2, sp 18 40400, sI 19 ((((c3.getD (v31).toNat ((0 : Int), ([] : LI))).2).drop ((v72 + (1 : Int))).toNat).getD (v12).toNat (0 : Int)), e33b99 ret55v v72 v12, e33b82, e33b83, e33b84, e33b85, e33b23 ret55v, e33b80, sI 43 v72, e33b20 c3 v31 v72, e33b33 c3 v31, e33b26 c3 v31, sI 100 v72, e33b72, e33b73, e33b74, e33b75, e33b76, e33b77, e33b78], [e33b15, e33b6 sign over, e33b28 i3, e33b14, e33b17 v31, e33b0 c3 v31, e33b13 c6, e33b18 out, e33b1 c0 c1 c2 c3 c4, e33b24 l404014]⟩ : St)) (by kernel_rfl) (tsI 5 ⟨o1, tsI 1 trivial⟩) ?_
               refine awl_inlr [.t 6] [30000, 30001, 30002, 30003, 30004, 30005, 30006, 30400, 40400, 40401] [.c (.ptr 40400 0), .c (.pI ((((c3.getD (v31).toNat ((0 : Int), ([] : LI))).2).drop ((v72 + (1 : Int))).toNat).getD (v12).toNat (0 : Int))), .agg [.pI (((ret55v.drop ((v72 + (1 : Int))).toNat).getD (v12).toNat ((0 : Int), (0 : Int))).1), .pI (((ret55v.drop ((v72 + (1 : Int))).toNat).getD (v12).toNat ((0 : Int), (0 : Int))).2)]] [] rfl rfl (by kernel_rfl) rfl (by kernel_rfl) Try.call86 (by kernel_rfl) (by kernel_rfl) Try.func86 rfl rfl (by kernel_rfl) ?_
               refine aw_conv [] (st' := (⟨87, [e33b61, e33b10 c3 v31 v72 v12, e33b100 ret55v v72 v12, e33b62, e33b7 ret55v v72, e33b5 c3 v31 v72, e33b4 c3 v31 v72, sI 99 v12, sI 104 n2, sp 105 40400, sI 106 ((((c3.getD (v31).toNat ((0 : Int), ([] : LI))).2).drop ((v72 + (1 : Int))).toNat).getD (v12).toNat (0 : Int)), e33b98 ret55v v72 v12, e33b44, e33b45, e33b46, e33b47, e33b9 ret55v, e33b40, sI 130 v72, e33b8 c3 v31 v72, e33b16 c3 v31, e33b12 c3 v31, sI 187 v72, e33b48, e33b49, e33b50, e33b51, e33b52, e33b53, e33b60], [e33b15, e33b6 sign over, e33b28 i3, e33b14, e33b17 v31, e33b0 c3 v31, e33b13 c6, e33b18 out, e33b1 c0 c1 c2 c3 c4, e33b24 l404014]⟩ : St)) (by kernel_rfl) ?_
               refine withJoinR (σ := Int × (List ((Int × (Int × (Int × Int))) × Int))) (fun s => (⟨87, [sI 6 s.1, e33b62, e33b7 ret55v v72, e33b5 c3 v31 v72, e33b4 c3 v31 v72, sI 99 v12, sI 104 n2, e33b44, e33b45, e33b46, e33b47, e33b9 ret55v, e33b40, sI 130 v72, e33b8 c3 v31 v72, e33b16 c3 v31, e33b12 c3 v31, sI 187 v72, e33b48, e33b49, e33b50, e33b51, e33b52, e33b53, e33b60], [e33b15, e33b6 sign over, e33b28 i3, e33b14, e33b17 v31, e33b0 c3 v31, e33b13 c6, e33b18 out, e33b1 c0 c1 c2 c3 c4, (40401, [], .dict (.pr (.int .i64) t3) (.int .i64) s.2)]⟩ : St)) (fun s => VCc67_k11 n2 v12 X5 s.1 s.2) (fun s h => ?_) (fun rest10 => ?_)
               ·obtain ⟨v6, l404015⟩ := s
                have h : VCc67_k11 n2 v12 X5 v6 l404015 := h
                unfold VCc67_k11 at h
                refine inlR_n (ob := True) (.v (.c (.pI v6))) (by kernel_rfl) trivial rfl ?_
                refine lpr (st' := (⟨28, [e33b61, e33b27 ret55v v72, e33b36 c3 v31 v72, e33b30 c3 v31 v72, sI 12 v12, sI 17 n2, sI 24 v6, e33b82, e33b83, e33b84, e33b85, e33b23 ret55v, e33b80, sI 43 v72, e33b20 c3 v31 v72, e33b33 c3 v31, e33b26 c3 v31, sI 100 v72, e33b72, e33b73, e33b74, e33b75, e33b76, e33b77, e33b78], [e33b15, e33b6 sign over, e33b28 i3, e33b14, e33b17 v31, e33b0 c3 v31, e33b13 c6, e33b18 out, e33b1 c0 c1 c2 c3 c4, e33b41 l404015]⟩ : St)) (by kernel_rfl) ?_
                refine lcq (d := 25) [.d (.int .i64), .d (.int .i64)] (fun ret25v => (⟨28, [e33b61, e33b27 ret55v v72, e33b36 c3 v31 v72, e33b30 c3 v31 v72, sI 12 v12, sI 25 ret25v, e33b82, e33b83, e33b84, e33b85, e33b23 ret55v, e33b80, sI 43 v72, e33b20 c3 v31 v72, e33b33 c3 v31, e33b26 c3 v31, sI 100 v72, e33b72, e33b73, e33b74, e33b75, e33b76, e33b77, e33b78], [e33b15, e33b6 sign over, e33b28 i3, e33b14, e33b17 v31, e33b0 c3 v31, e33b13 c6, e33b18 out, e33b1 c0 c1 c2 c3 c4, e33b41 l404015]⟩ : St)) (by kernel_rfl) Try.call124 (fun _ => by kernel_rfl) (link124 n2 v6 _ h) (fun ret25v h => ?_)
                refine rq 1 (ob := (Ts 1 True)) (st' := (⟨28, [e33b61, e33b27 ret55v v72, sI 7 ret25v, e33b36 c3 v31 v72, e33b30 c3 v31 v72, sI 12 v12, e33b82, e33b83, e33b84, e33b85, e33b23 ret55v, e33b80, sI 43 v72, e33b20 c3 v31 v72, e33b33 c3 v31, e33b26 c3 v31, sI 100 v72, e33b72, e33b73, e33b74, e33b75, e33b76, e33b77, e33b78], [e33b15, e33b6 sign over, e33b28 i3, e33b14, e33b17 v31, e33b0 c3 v31, e33b13 c6, e33b18 out, e33b1 c0 c1 c2 c3 c4, e33b41 l404015]⟩ : St)) (by kernel_rfl) (tsI 1 trivial) ?_
                refine awl_nil ?_
                refine blockQ_n ?_
                refine thenQ_n ?_
                refine aw_region ?_
                obtain ⟨o1, h⟩ := h
                refine rq 2 (ob := (InR (v12 + (1 : Int)) ∧ Ts 1 True)) (st' := (⟨28, [e33b61, e33b27 ret55v v72, sI 7 ret25v, e33b36 c3 v31 v72, e33b30 c3 v31 v72, sI 12 (v12 + (1 : Int)), e33b82, e33b83, e33b84, e33b85, e33b23 ret55v, e33b80, sI 43 v72, e33b20 c3 v31 v72, e33b33 c3 v31, e33b26 c3 v31, sI 100 v72, e33b72, e33b73, e33b74, e33b75, e33b76, e33b77, e33b78], [e33b15, e33b6 sign over, e33b28 i3, e33b14, e33b17 v31, e33b0 c3 v31, e33b13 c6, e33b18 out, e33b1 c0 c1 c2 c3 c4, e33b41 l404015]⟩ : St)) (by kernel_rfl) (⟨o1, tsI 1 trivial⟩) ?_
                refine awl_nil ?_
                exact thenQ_n ⟨(ret25v, (v12 + (1 : Int)), l404015), rfl, h⟩
               ·refine sr ?_
                refine rq 2 (ob := (Ts 2 True)) (st' := (⟨87, [e33b61, e33b10 c3 v31 v72 v12, sp 5 5, e33b62, e33b7 ret55v v72, e33b5 c3 v31 v72, e33b4 c3 v31 v72, sI 99 v12, sI 104 n2, e33b44, e33b45, e33b46, e33b47, e33b9 ret55v, e33b40, sI 130 v72, e33b8 c3 v31 v72, e33b16 c3 v31, e33b12 c3 v31, sI 187 v72, e33b48, e33b49, e33b50, e33b51, e33b52, e33b53, e33b60], [e33b3 ret55v v72 v12, e33b15, e33b6 sign over, e33b28 i3, e33b14, e33b17 v31, e33b0 c3 v31, e33b13 c6, e33b18 out, e33b1 c0 c1 c2 c3 c4, e33b24 l404014]⟩ : St)) (by kernel_rfl) (tsI 2 trivial) ?_
                refine nn ?_
                refine aw_seq ?_
                refine sr ?_
                refine rq 7 (ob := (Ts 7 True)) (st' := (⟨87, [e33b61, e33b10 c3 v31 v72 v12, sp 5 5, sB 19 (decide (((((c3.getD (v31).toNat ((0 : Int), ([] : LI))).2).drop ((v72 + (1 : Int))).toNat).getD (v12).toNat (0 : Int)) < c0)), e33b62, e33b7 ret55v v72, e33b5 c3 v31 v72, e33b4 c3 v31 v72, sI 99 v12, sI 104 n2, e33b44, e33b45, e33b46, e33b47, e33b9 ret55v, e33b40, sI 130 v72, e33b8 c3 v31 v72, e33b16 c3 v31, e33b12 c3 v31, sI 187 v72, e33b48, e33b49, e33b50, e33b51, e33b52, e33b53, e33b60], [e33b3 ret55v v72 v12, e33b15, e33b6 sign over, e33b28 i3, e33b14, e33b17 v31, e33b0 c3 v31, e33b13 c6, e33b18 out, e33b1 c0 c1 c2 c3 c4, e33b24 l404014]⟩ : St)) (by kernel_rfl) (tsI 7 trivial) ?_
                refine nn ?_
                refine aw_cond (b := (decide (((((c3.getD (v31).toNat ((0 : Int), ([] : LI))).2).drop ((v72 + (1 : Int))).toNat).getD (v12).toNat (0 : Int)) < c0))) (by kernel_rfl) (fun hb => ?_) (fun hb => ?_)
                ·have h := h.1 hb
                 refine aw_seq ?_
                 refine aw_seq ?_
                 refine awd_begin [] (by kernel_rfl) ?_
                 obtain ⟨o1, o2, h⟩ := h
                 refine drq (by kernel_rfl) [0, 1, 2, 3, 4, 5, 6, 7, 8, 9, 10, 11, 12, 13, 14, 15, 16, 17] (ob := (Ts 4 (InR (((ret55v.drop ((v72 + (1 : Int))).toNat).getD (v12).toNat ((0 : Int), (0 : Int))).1 + (1 : Int)) ∧ Ts 2 (Ti 6 ((decide (((ret55v.drop ((v72 + (1 : Int))).toNat).getD (v12).toNat ((0 : Int), (0 : Int))).2 = (((ret55v.drop ((v72 + (1 : Int))).toNat).getD (v12).toNat ((0 : Int), (0 : Int))).1 + (1 : Int)))) = true → True) (((decide (((ret55v.drop ((v72 + (1 : Int))).toNat).getD (v12).toNat ((0 : Int), (0 : Int))).2 = (((ret55v.drop ((v72 + (1 : Int))).toNat).getD (v12).toNat ((0 : Int), (0 : Int))).1 + (1 : Int)))) = true → inIdx (((ret55v.drop ((v72 + (1 : Int))).toNat).getD (v12).toNat ((0 : Int), (0 : Int))).1) c4.length) ∧ Ti 3 ((decide (((ret55v.drop ((v72 + (1 : Int))).toNat).getD (v12).toNat ((0 : Int), (0 : Int))).2 = (((ret55v.drop ((v72 + (1 : Int))).toNat).getD (v12).toNat ((0 : Int), (0 : Int))).1 + (1 : Int)))) = true → True) (Ts 1 True)))))) (done' := [17, 16, 15, 14, 13, 12, 11, 10, 9, 8, 7, 6, 5, 4, 3, 2, 1, 0]) (st' := (⟨87, [e33b59 ret55v v72 v12 c4 c3 v31, e33b62, e33b7 ret55v v72, e33b5 c3 v31 v72, e33b4 c3 v31 v72, sI 99 v12, sI 104 n2, e33b44, e33b45, e33b46, e33b47, e33b9 ret55v, e33b40, sI 130 v72, e33b8 c3 v31 v72, e33b16 c3 v31, e33b12 c3 v31, sI 187 v72, e33b48, e33b49, e33b50, e33b51, e33b52, e33b53, e33b60], [e33b15, e33b6 sign over, e33b28 i3, e33b14, e33b17 v31, e33b0 c3 v31, e33b13 c6, e33b18 out, e33b1 c0 c1 c2 c3 c4, e33b24 l404014]⟩ : St)) (by kernel_rfl) (tsI 4 (⟨o1, tsI 2 (tiI 6 (fun _ => trivial) ⟨o2, tiI 3 (fun _ => trivial) (tsI 1 trivial)⟩)⟩)) ?_
                 refine awd_done (by kernel_rfl) ?_
                 refine thenQ_n ?_
                 refine aw_cond (b := ((decide (((ret55v.drop ((v72 + (1 : Int))).toNat).getD (v12).toNat ((0 : Int), (0 : Int))).2 = (((ret55v.drop ((v72 + (1 : Int))).toNat).getD (v12).toNat ((0 : Int), (0 : Int))).1 + (1 : Int)))) && (decide ((c4.getD (((ret55v.drop ((v72 + (1 : Int))).toNat).getD (v12).toNat ((0 : Int), (0 : Int))).1).toNat (0 : Int)) = ((((c3.getD (v31).toNat ((0 : Int), ([] : LI))).2).drop ((v72 + (1 : Int))).toNat).getD (v12).toNat (0 : Int)))))) (by kernel_rfl) (fun hb => ?_) (fun hb => ?_)
                 ·have h := h.1 hb
                  refine sr ?_
                  refine rq 1 (ob := (Ts 1 True)) (st' := (⟨87, [sI 6 (1 : Int), e33b62, e33b7 ret55v v72, e33b5 c3 v31 v72, e33b4 c3 v31 v72, sI 99 v12, sI 104 n2, e33b44, e33b45, e33b46, e33b47, e33b9 ret55v, e33b40, sI 130 v72, e33b8 c3 v31 v72, e33b16 c3 v31, e33b12 c3 v31, sI 187 v72, e33b48, e33b49, e33b50, e33b51, e33b52, e33b53, e33b60], [e33b15, e33b6 sign over, e33b28 i3, e33b14, e33b17 v31, e33b0 c3 v31, e33b13 c6, e33b18 out, e33b1 c0 c1 c2 c3 c4, e33b24 l404014]⟩ : St)) (by kernel_rfl) (tsI 1 trivial) ?_
                  refine nn ?_
                  refine aw_ret ?_
                  refine thenQ_r ?_
                  refine thenQ_r ?_
                  exact rest10 ((1 : Int), l404014) h
                 ·have h := h.2 hb
                  refine aw_skip ?_
                  refine thenQ_n ?_
                  refine sr ?_
                  refine rq 1 (ob := (Ts 1 True)) (st' := (⟨87, [sI 6 (0 : Int), e33b62, e33b7 ret55v v72, e33b5 c3 v31 v72, e33b4 c3 v31 v72, sI 99 v12, sI 104 n2, e33b44, e33b45, e33b46, e33b47, e33b9 ret55v, e33b40, sI 130 v72, e33b8 c3 v31 v72, e33b16 c3 v31, e33b12 c3 v31, sI 187 v72, e33b48, e33b49, e33b50, e33b51, e33b52, e33b53, e33b60], [e33b15, e33b6 sign over, e33b28 i3, e33b14, e33b17 v31, e33b0 c3 v31, e33b13 c6, e33b18 out, e33b1 c0 c1 c2 c3 c4, e33b24 l404014]⟩ : St)) (by kernel_rfl) (tsI 1 trivial) ?_
                  refine nn ?_
                  refine aw_ret ?_
                  refine thenQ_r ?_
                  exact rest10 ((0 : Int), l404014) h
                ·have h := h.2 hb
                 refine aw_skip ?_
                 refine thenQ_n ?_
                 refine sr ?_
                 refine rq 5 (ob := (Ts 5 True)) (st' := (⟨87, [e33b61, e33b10 c3 v31 v72 v12, sp 5 5, sp 7 7, e33b62, e33b7 ret55v v72, e33b5 c3 v31 v72, e33b4 c3 v31 v72, sI 99 v12, sI 104 n2, e33b44, e33b45, e33b46, e33b47, e33b9 ret55v, e33b40, sI 130 v72, e33b8 c3 v31 v72, e33b16 c3 v31, e33b12 c3 v31, sI 187 v72, e33b48, e33b49, e33b50, e33b51, e33b52, e33b53, e33b60], [e33b3 ret55v v72 v12, e33b2 c3 v31 v72 v12 ret55v, e33b15, e33b6 sign over, e33b28 i3, e33b14, e33b17 v31, e33b0 c3 v31, e33b13 c6, e33b18 out, e33b1 c0 c1 c2 c3 c4, e33b24 l404014]⟩ : St)) (by kernel_rfl) (tsI 5 trivial) ?_
                 refine nn ?_
                 refine aw_seq ?_
                 refine aw_seq ?_
                 refine awd_begin [] (by kernel_rfl) ?_
                 refine drq (by kernel_rfl) [0, 1, 2, 3, 4, 5, 6, 7, 8, 9, 10] (ob := (Ts 11 True)) (done' := [10, 9, 8, 7, 6, 5, 4, 3, 2, 1, 0]) (st' := (⟨87, [e33b61, e33b10 c3 v31 v72 v12, sp 5 5, sp 7 7, e33b58 l404014 c3 v31 v72 v12 ret55v, sB 9 ((mget l404014 ((-1 : Int), (((((c3.getD (v31).toNat ((0 : Int), ([] : LI))).2).drop ((v72 + (1 : Int))).toNat).getD (v12).toNat (0 : Int)), ((ret55v.drop ((v72 + (1 : Int))).toNat).getD (v12).toNat ((0 : Int), (0 : Int)))))).isSome), e33b62, e33b7 ret55v v72, e33b5 c3 v31 v72, e33b4 c3 v31 v72, sI 99 v12, sI 104 n2, e33b44, e33b45, e33b46, e33b47, e33b9 ret55v, e33b40, sI 130 v72, e33b8 c3 v31 v72, e33b16 c3 v31, e33b12 c3 v31, sI 187 v72, e33b48, e33b49, e33b50, e33b51, e33b52, e33b53, e33b60], [e33b3 ret55v v72 v12, e33b2 c3 v31 v72 v12 ret55v, e33b15, e33b6 sign over, e33b28 i3, e33b14, e33b17 v31, e33b0 c3 v31, e33b13 c6, e33b18 out, e33b1 c0 c1 c2 c3 c4, e33b24 l404014]⟩ : St)) (by kernel_rfl) (tsI 11 trivial) ?_
                 refine awd_done (by kernel_rfl) ?_
                 refine thenQ_n ?_
                 refine sr ?_
                 refine rq 1 (ob := (Ts 1 True)) (st' := (⟨87, [e33b61, e33b10 c3 v31 v72 v12, sp 5 5, sp 7 7, e33b58 l404014 c3 v31 v72 v12 ret55v, sB 50 ((mget l404014 ((-1 : Int), (((((c3.getD (v31).toNat ((0 : Int), ([] : LI))).2).drop ((v72 + (1 : Int))).toNat).getD (v12).toNat (0 : Int)), ((ret55v.drop ((v72 + (1 : Int))).toNat).getD (v12).toNat ((0 : Int), (0 : Int)))))).isSome), e33b62, e33b7 ret55v v72, e33b5 c3 v31 v72, e33b4 c3 v31 v72, sI 99 v12, sI 104 n2, e33b44, e33b45, e33b46, e33b47, e33b9 ret55v, e33b40, sI 130 v72, e33b8 c3 v31 v72, e33b16 c3 v31, e33b12 c3 v31, sI 187 v72, e33b48, e33b49, e33b50, e33b51, e33b52, e33b53, e33b60], [e33b3 ret55v v72 v12, e33b2 c3 v31 v72 v12 ret55v, e33b15, e33b6 sign over, e33b28 i3, e33b14, e33b17 v31, e33b0 c3 v31, e33b13 c6, e33b18 out, e33b1 c0 c1 c2 c3 c4, e33b24 l404014]⟩ : St)) (by kernel_rfl) (tsI 1 trivial) ?_
                 refine nn ?_
                 refine aw_cond (b := (mget l404014 ((-1 : Int), (((((c3.getD (v31).toNat ((0 : Int), ([] : LI))).2).drop ((v72 + (1 : Int))).toNat).getD (v12).toNat (0 : Int)), ((ret55v.drop ((v72 + (1 : Int))).toNat).getD (v12).toNat ((0 : Int), (0 : Int)))))).isSome) (by kernel_rfl) (fun hb => ?_) (fun hb => ?_)
                 ·have h := h.1 hb
                  refine sr ?_
                  refine rq 2 (ob := (Ts 2 True)) (st' := (⟨87, [sI 6 ((mget l404014 ((-1 : Int), (((((c3.getD (v31).toNat ((0 : Int), ([] : LI))).2).drop ((v72 + (1 : Int))).toNat).getD (v12).toNat (0 : Int)), ((ret55v.drop ((v72 + (1 : Int))).toNat).getD (v12).toNat ((0 : Int), (0 : Int)))))).getD (0 : Int)), e33b62, e33b7 ret55v v72, e33b5 c3 v31 v72, e33b4 c3 v31 v72, sI 99 v12, sI 104 n2, e33b44, e33b45, e33b46, e33b47, e33b9 ret55v, e33b40, sI 130 v72, e33b8 c3 v31 v72, e33b16 c3 v31, e33b12 c3 v31, sI 187 v72, e33b48, e33b49, e33b50, e33b51, e33b52, e33b53, e33b60], [e33b15, e33b6 sign over, e33b28 i3, e33b14, e33b17 v31, e33b0 c3 v31, e33b13 c6, e33b18 out, e33b1 c0 c1 c2 c3 c4, e33b24 l404014]⟩ : St)) (by kernel_rfl) (tsI 2 trivial) ?_
                  refine nn ?_
                  refine aw_ret ?_
                  refine thenQ_r ?_
                  exact rest10 (((mget l404014 ((-1 : Int), (((((c3.getD (v31).toNat ((0 : Int), ([] : LI))).2).drop ((v72 + (1 : Int))).toNat).getD (v12).toNat (0 : Int)), ((ret55v.drop ((v72 + (1 : Int))).toNat).getD (v12).toNat ((0 : Int), (0 : Int)))))).getD (0 : Int)), l404014) h
                 ·have h := h.2 hb
                  refine aw_skip ?_
                  refine thenQ_n ?_
                  refine sr ?_
                  refine rq 1 (ob := (Ts 1 True)) (st' := (⟨87, [e33b61, e33b10 c3 v31 v72 v12, sp 5 5, sp 7 7, sI 10 (0 : Int), e33b62, e33b7 ret55v v72, e33b5 c3 v31 v72, e33b4 c3 v31 v72, sI 99 v12, sI 104 n2, e33b44, e33b45, e33b46, e33b47, e33b9 ret55v, e33b40, sI 130 v72, e33b8 c3 v31 v72, e33b16 c3 v31, e33b12 c3 v31, sI 187 v72, e33b48, e33b49, e33b50, e33b51, e33b52, e33b53, e33b60], [e33b3 ret55v v72 v12, e33b2 c3 v31 v72 v12 ret55v, e33b15, e33b6 sign over, e33b28 i3, e33b14, e33b17 v31, e33b0 c3 v31, e33b13 c6, e33b18 out, e33b1 c0 c1 c2 c3 c4, e33b24 l404014]⟩ : St)) (by kernel_rfl) (tsI 1 trivial) ?_
                  refine nn ?_
                  refine aw_seq ?_
                  refine sr ?_
                  refine rq 7 (ob := (Ts 7 True)) (st' := (⟨87, [e33b61, e33b10 c3 v31 v72 v12, sp 5 5, sp 7 7, sI 10 (0 : Int), e33b21 c3, e33b57 c3, sI 58 (0 : Int), e33b62, e33b7 ret55v v72, e33b5 c3 v31 v72, e33b4 c3 v31 v72, sI 99 v12, sI 104 n2, e33b44, e33b45, e33b46, e33b47, e33b9 ret55v, e33b40, sI 130 v72, e33b8 c3 v31 v72, e33b16 c3 v31, e33b12 c3 v31, sI 187 v72, e33b48, e33b49, e33b50, e33b51, e33b52, e33b53, e33b60], [e33b3 ret55v v72 v12, e33b2 c3 v31 v72 v12 ret55v, e33b15, e33b6 sign over, e33b28 i3, e33b14, e33b17 v31, e33b0 c3 v31, e33b13 c6, e33b18 out, e33b1 c0 c1 c2 c3 c4, e33b24 l404014]⟩ : St)) (by kernel_rfl) (tsI 7 trivial) ?_
                  refine nn ?_
                  refine withJoin (σ := Int × (List ((Int × (Int × (Int × Int))) × Int))) (fun s => (⟨87, [e33b61, sp 7 7, sI 10 s.1, e33b62, e33b7 ret55v v72, e33b5 c3 v31 v72, e33b4 c3 v31 v72, sI 99 v12, sI 104 n2, e33b44, e33b45, e33b46, e33b47, e33b9 ret55v, e33b40, sI 130 v72, e33b8 c3 v31 v72, e33b16 c3 v31, e33b12 c3 v31, sI 187 v72, e33b48, e33b49, e33b50, e33b51, e33b52, e33b53, e33b60], [e33b2 c3 v31 v72 v12 ret55v, e33b15, e33b6 sign over, e33b28 i3, e33b14, e33b17 v31, e33b0 c3 v31, e33b13 c6, e33b18 out, e33b1 c0 c1 c2 c3 c4, (40401, [], .dict (.pr (.int .i64) t3) (.int .i64) s.2)]⟩ : St)) (fun s => VCc67_k12 c3 v31 ret55v v72 n2 v12 X5 s.1 s.2) (fun s h => ?_) (fun rest11 => ?_)
                  ·obtain ⟨n3, l404015⟩ := s
                   have h : VCc67_k12 c3 v31 ret55v v72 n2 v12 X5 n3 l404015 := h
                   unfold VCc67_k12 at h
                   refine thenQ_n ?_
                   refine aw_seq ?_
                   refine awd_begin [40401] (by kernel_rfl) ?_
                   refine drq (by kernel_rfl) [0, 1, 2, 3, 4, 5] (ob := (Ts 6 True)) (done' := [5, 4, 3, 2, 1, 0]) (st' := (⟨87, [sI 10 n3, s1 83 (.own 40401), e33b65 c3 v31 v72 v12 ret55v, sI 85 n3, e33b62, e33b7 ret55v v72, e33b5 c3 v31 v72, e33b4 c3 v31 v72, sI 99 v12, sI 104 n2, e33b44, e33b45, e33b46, e33b47, e33b9 ret55v, e33b40, sI 130 v72, e33b8 c3 v31 v72, e33b16 c3 v31, e33b12 c3 v31, sI 187 v72, e33b48, e33b49, e33b50, e33b51, e33b52, e33b53, e33b60], [e33b15, e33b6 sign over, e33b28 i3, e33b14, e33b17 v31, e33b0 c3 v31, e33b13 c6, e33b18 out, e33b1 c0 c1 c2 c3 c4, e33b41 l404015]⟩ : St)) (by kernel_rfl) (tsI 6 trivial) ?_
                   refine awd_one (i := 6) (by kernel_rfl) ?_
                   refine dsq (ob := True) (st' := (⟨87, [sI 10 n3, e33b62, e33b7 ret55v v72, e33b5 c3 v31 v72, e33b4 c3 v31 v72, sI 99 v12, sI 104 n2, e33b44, e33b45, e33b46, e33b47, e33b9 ret55v, e33b40, sI 130 v72, e33b8 c3 v31 v72, e33b16 c3 v31, e33b12 c3 v31, sI 187 v72, e33b48, e33b49, e33b50, e33b51, e33b52, e33b53, e33b60], [e33b15, e33b6 sign over, e33b28 i3, e33b14, e33b17 v31, e33b0 c3 v31, e33b13 c6, e33b18 out, e33b1 c0 c1 c2 c3 c4, e33b55 l404015 c3 v31 v72 v12 ret55v n3]⟩ : St)) rfl (by kernel_rfl) trivial ?_
                   refine awd_done (by kernel_rfl) ?_
                   refine thenQ_n ?_
                   refine sr ?_
                   refine rq 2 (ob := (Ts 2 True)) (st' := (⟨87, [sI 6 n3, e33b62, e33b7 ret55v v72, e33b5 c3 v31 v72, e33b4 c3 v31 v72, sI 99 v12, sI 104 n2, e33b44, e33b45, e33b46, e33b47, e33b9 ret55v, e33b40, sI 130 v72, e33b8 c3 v31 v72, e33b16 c3 v31, e33b12 c3 v31, sI 187 v72, e33b48, e33b49, e33b50, e33b51, e33b52, e33b53, e33b60], [e33b15, e33b6 sign over, e33b28 i3, e33b14, e33b17 v31, e33b0 c3 v31, e33b13 c6, e33b18 out, e33b1 c0 c1 c2 c3 c4, e33b55 l404015 c3 v31 v72 v12 ret55v n3]⟩ : St)) (by kernel_rfl) (tsI 2 trivial) ?_
                   refine nn ?_
                   refine aw_ret ?_
                   exact rest10 (n3, (mset l404015 ((-1 : Int), (((((c3.getD (v31).toNat ((0 : Int), ([] : LI))).2).drop ((v72 + (1 : Int))).toNat).getD (v12).toNat (0 : Int)), ((ret55v.drop ((v72 + (1 : Int))).toNat).getD (v12).toNat ((0 : Int), (0 : Int))))) n3)) h
                  ·refine aw_block ?_
                   refine aw_loop (σ := Int × Int × (List ((Int × (Int × (Int × Int))) × Int))) (fun s => (⟨87, [e33b61, e33b10 c3 v31 v72 v12, sp 5 5, sp 7 7, sI 10 s.1, e33b21 c3, e33b57 c3, sI 58 s.2.1, e33b62, e33b7 ret55v v72, e33b5 c3 v31 v72, e33b4 c3 v31 v72, sI 99 v12, sI 104 n2, e33b44, e33b45, e33b46, e33b47, e33b9 ret55v, e33b40, sI 130 v72, e33b8 c3 v31 v72, e33b16 c3 v31, e33b12 c3 v31, sI 187 v72, e33b48, e33b49, e33b50, e33b51, e33b52, e33b53, e33b60], [e33b3 ret55v v72 v12, e33b2 c3 v31 v72 v12 ret55v, e33b15, e33b6 sign over, e33b28 i3, e33b14, e33b17 v31, e33b0 c3 v31, e33b13 c6, e33b18 out, e33b1 c0 c1 c2 c3 c4, (40401, [], .dict (.pr (.int .i64) t3) (.int .i64) s.2.2)]⟩ : St)) (fun s X => VCc67_l6 c0 c1 c2 c3 c4 v31 ret55v v72 n2 v12 X5 s.1 s.2.1 s.2.2 X) (s0 := ((0 : Int), (0 : Int), l404014)) (fun s X6 h => ?_) h
                   obtain ⟨n3, v58, l404015⟩ := s
                   have h : VCc67_l6 c0 c1 c2 c3 c4 v31 ret55v v72 n2 v12 X5 n3 v58 l404015 X6 := h
                   unfold VCc67_l6 at h
                   refine sr ?_
                   refine rq 1 (ob := (Ts 1 True)) (st' := (⟨87, [e33b61, e33b10 c3 v31 v72 v12, sp 5 5, sp 7 7, sI 10 n3, e33b21 c3, e33b57 c3, sI 58 v58, sB 59 (decide (v58 < (c3.length : Int))), e33b62, e33b7 ret55v v72, e33b5 c3 v31 v72, e33b4 c3 v31 v72, sI 99 v12, sI 104 n2, e33b44, e33b45, e33b46, e33b47, e33b9 ret55v, e33b40, sI 130 v72, e33b8 c3 v31 v72, e33b16 c3 v31, e33b12 c3 v31, sI 187 v72, e33b48, e33b49, e33b50, e33b51, e33b52, e33b53, e33b60], [e33b3 ret55v v72 v12, e33b2 c3 v31 v72 v12 ret55v, e33b15, e33b6 sign over, e33b28 i3, e33b14, e33b17 v31, e33b0 c3 v31, e33b13 c6, e33b18 out, e33b1 c0 c1 c2 c3 c4, e33b41 l404015]⟩ : St)) (by kernel_rfl) (tsI 1 trivial) ?_
                   refine nn ?_
                   refine aw_seq ?_
                   refine aw_cond (b := (decide (v58 < (c3.length : Int)))) (by kernel_rfl) (fun hb => ?_) (fun hb => ?_)
                   ·have h := h.1 hb
                    refine aw_skip ?_
                    refine thenQ_n ?_
                    refine aw_seq ?_
                    refine aw_block ?_
                    refine sr ?_
                    obtain ⟨o1, h⟩ := h
                    refine rq 6 (ob := (Ts 1 (inIdx v58 c3.length ∧ Ts 4 True))) (st' := (⟨87, [e33b61, e33b10 c3 v31 v72 v12, sp 5 5, sp 7 7, sI 10 n3, sI 11 v58, sp 12 12, e33b21 c3, e33b57 c3, sI 58 v58, e33b62, e33b7 ret55v v72, e33b5 c3 v31 v72, e33b4 c3 v31 v72, sI 99 v12, sI 104 n2, e33b44, e33b45, e33b46, e33b47, e33b9 ret55v, e33b40, sI 130 v72, e33b8 c3 v31 v72, e33b16 c3 v31, e33b12 c3 v31, sI 187 v72, e33b48, e33b49, e33b50, e33b51, e33b52, e33b53, e33b60], [e33b3 ret55v v72 v12, e33b2 c3 v31 v72 v12 ret55v, e33b108 c3 v58, e33b15, e33b6 sign over, e33b28 i3, e33b14, e33b17 v31, e33b0 c3 v31, e33b13 c6, e33b18 out, e33b1 c0 c1 c2 c3 c4, e33b41 l404015]⟩ : St)) (by kernel_rfl) (tsI 1 ⟨o1, tsI 4 trivial⟩) ?_
                    refine nn ?_
                    refine aw_seq ?_
                    refine awd_begin [] (by kernel_rfl) ?_
                    obtain ⟨o1, h⟩ := h
                    refine drq (by kernel_rfl) [0, 1, 2, 3, 4, 5, 6, 7, 8, 9] (ob := (Ts 8 (InR (((((c3.getD (v31).toNat ((0 : Int), ([] : LI))).2).drop ((v72 + (1 : Int))).toNat).getD (v12).toNat (0 : Int)) - c0) ∧ Ts 1 True))) (done' := [9, 8, 7, 6, 5, 4, 3, 2, 1, 0]) (st' := (⟨87, [e33b61, e33b10 c3 v31 v72 v12, sp 5 5, sp 7 7, sI 10 n3, sI 11 v58, e33b21 c3, e33b57 c3, sI 58 v58, e33b103 c3 v58 v31 v72 v12 c0, e33b62, e33b7 ret55v v72, e33b5 c3 v31 v72, e33b4 c3 v31 v72, sI 99 v12, sI 104 n2, e33b44, e33b45, e33b46, e33b47, e33b9 ret55v, e33b40, sI 130 v72, e33b8 c3 v31 v72, e33b16 c3 v31, e33b12 c3 v31, sI 187 v72, e33b48, e33b49, e33b50, e33b51, e33b52, e33b53, e33b60], [e33b3 ret55v v72 v12, e33b2 c3 v31 v72 v12 ret55v, e33b15, e33b6 sign over, e33b28 i3, e33b14, e33b17 v31, e33b0 c3 v31, e33b13 c6, e33b18 out, e33b1 c0 c1 c2 c3 c4, e33b41 l404015]⟩ : St)) (by kernel_rfl) (tsI 8 ⟨o1, tsI 1 trivial⟩) ?_
                    refine awd_done (by kernel_rfl) ?_
                    refine thenQ_n ?_
                    refine withJoin (σ := Int × (List ((Int × (Int × (Int × Int))) × Int))) (fun s => (⟨87, [e33b122, e33b10 c3 v31 v72 v12, sp 5 5, sp 7 7, sI 10 s.1, e33b21 c3, e33b57 c3, sI 58 v58, e33b117, e33b7 ret55v v72, e33b5 c3 v31 v72, e33b4 c3 v31 v72, sI 99 v12, sI 104 n2, e33b44, e33b45, e33b46, e33b47, e33b9 ret55v, e33b40, sI 130 v72, e33b8 c3 v31 v72, e33b16 c3 v31, e33b12 c3 v31, sI 187 v72, e33b48, e33b49, e33b50, e33b51, e33b52, e33b53, e33b114], [e33b3 ret55v v72 v12, e33b2 c3 v31 v72 v12 ret55v, e33b71, e33b6 sign over, e33b28 i3, e33b14, e33b17 v31, e33b0 c3 v31, e33b13 c6, e33b18 out, e33b22 c0 c1 c2 c3 c4, (40201, [], .dict (.pr (.int .i64) t3) (.int .i64) s.2)]⟩ : St)) (fun s => VCc67_k13 v58 X6 s.1 s.2) (fun s h => ?_) (fun rest12 => ?_)
                    ·obtain ⟨n4, l40201⟩ := s
                     have h : VCc67_k13 v58 X6 n4 l40201 := h
                     unfold VCc67_k13 at h
                     refine blockQ_n ?_
                     refine thenQ_n ?_
                     refine aw_region ?_
                     obtain ⟨o1, h⟩ := h
                     refine rq 2 (ob := (InR (v58 + (1 : Int)) ∧ Ts 1 True)) (st' := (⟨87, [e33b122, e33b10 c3 v31 v72 v12, sp 5 5, sp 7 7, sI 10 n4, e33b21 c3, e33b57 c3, sI 58 (v58 + (1 : Int)), e33b117, e33b7 ret55v v72, e33b5 c3 v31 v72, e33b4 c3 v31 v72, sI 99 v12, sI 104 n2, e33b44, e33b45, e33b46, e33b47, e33b9 ret55v, e33b40, sI 130 v72, e33b8 c3 v31 v72, e33b16 c3 v31, e33b12 c3 v31, sI 187 v72, e33b48, e33b49, e33b50, e33b51, e33b52, e33b53, e33b114], [e33b3 ret55v v72 v12, e33b2 c3 v31 v72 v12 ret55v, e33b71, e33b6 sign over, e33b28 i3, e33b14, e33b17 v31, e33b0 c3 v31, e33b13 c6, e33b18 out, e33b22 c0 c1 c2 c3 c4, (40201, [], .dict (.pr (.int .i64) t3) (.int .i64) l40201)]⟩ : St)) (by kernel_rfl) (⟨o1, tsI 1 trivial⟩) ?_
                     refine awl_conv [.ren 40200 60200, .ren 40201 60201, .ren 60200 40400, .ren 60201 40401] (st' := (⟨87, [e33b61, e33b10 c3 v31 v72 v12, sp 5 5, sp 7 7, sI 10 n4, e33b21 c3, e33b57 c3, sI 58 (v58 + (1 : Int)), e33b62, e33b7 ret55v v72, e33b5 c3 v31 v72, e33b4 c3 v31 v72, sI 99 v12, sI 104 n2, e33b44, e33b45, e33b46, e33b47, e33b9 ret55v, e33b40, sI 130 v72, e33b8 c3 v31 v72, e33b16 c3 v31, e33b12 c3 v31, sI 187 v72, e33b48, e33b49, e33b50, e33b51, e33b52, e33b53, e33b60], [e33b3 ret55v v72 v12, e33b2 c3 v31 v72 v12 ret55v, e33b15, e33b6 sign over, e33b28 i3, e33b14, e33b17 v31, e33b0 c3 v31, e33b13 c6, e33b18 out, e33b1 c0 c1 c2 c3 c4, (40401, [], .dict (.pr (.int .i64) t3) (.int .i64) l40201)]⟩ : St)) (by kernel_rfl) ?_
                     refine awl_nil ?_
                     exact thenQ_n ⟨(n4, (v58 + (1 : Int)), l40201), rfl, h⟩
                    ·refine aw_cond (b := (decide ((c3.getD (v58).toNat ((0 : Int), ([] : LI))).1 = (((((c3.getD (v31).toNat ((0 : Int), ([] : LI))).2).drop ((v72 + (1 : Int))).toNat).getD (v12).toNat (0 : Int)) - c0)))) (by kernel_rfl) (fun hb => ?_) (fun hb => ?_)
                     ·have h := h.1 hb
                      refine aw_region ?_
                      refine rq 4 (ob := (Ts 4 True)) (st' := (⟨87, [e33b61, e33b10 c3 v31 v72 v12, sp 5 5, sp 7 7, e33b21 c3, e33b57 c3, sI 58 v58, sI 73 n3, sp 74 40400, sI 75 v58, e33b54 ret55v v72 v12, e33b62, e33b7 ret55v v72, e33b5 c3 v31 v72, e33b4 c3 v31 v72, sI 99 v12, sI 104 n2, e33b44, e33b45, e33b46, e33b47, e33b9 ret55v, e33b40, sI 130 v72, e33b8 c3 v31 v72, e33b16 c3 v31, e33b12 c3 v31, sI 187 v72, e33b48, e33b49, e33b50, e33b51, e33b52, e33b53, e33b60], [e33b3 ret55v v72 v12, e33b2 c3 v31 v72 v12 ret55v, e33b15, e33b6 sign over, e33b28 i3, e33b14, e33b17 v31, e33b0 c3 v31, e33b13 c6, e33b18 out, e33b1 c0 c1 c2 c3 c4, e33b41 l404015]⟩ : St)) (by kernel_rfl) (tsI 4 trivial) ?_
                      refine awl_conv [.ren 40400 40200, .ren 40401 40201] (st' := (⟨87, [e33b122, e33b10 c3 v31 v72 v12, sp 5 5, sp 7 7, e33b21 c3, e33b57 c3, sI 58 v58, sI 73 n3, sp 74 40200, sI 75 v58, e33b54 ret55v v72 v12, e33b117, e33b7 ret55v v72, e33b5 c3 v31 v72, e33b4 c3 v31 v72, sI 99 v12, sI 104 n2, e33b44, e33b45, e33b46, e33b47, e33b9 ret55v, e33b40, sI 130 v72, e33b8 c3 v31 v72, e33b16 c3 v31, e33b12 c3 v31, sI 187 v72, e33b48, e33b49, e33b50, e33b51, e33b52, e33b53, e33b114], [e33b3 ret55v v72 v12, e33b2 c3 v31 v72 v12 ret55v, e33b71, e33b6 sign over, e33b28 i3, e33b14, e33b17 v31, e33b0 c3 v31, e33b13 c6, e33b18 out, e33b22 c0 c1 c2 c3 c4, e33b123 l404015]⟩ : St)) (by kernel_rfl) ?_
                      refine awl_lcall (σ := Int × (List ((Int × (Int × (Int × Int))) × Int))) [40200, 40201] [40200] [.c (.ptr 40200 0), .c (.pI v58), .c (.pI (0 : Int)), .agg [.pI (((ret55v.drop ((v72 + (1 : Int))).toNat).getD (v12).toNat ((0 : Int), (0 : Int))).1), .pI (((ret55v.drop ((v72 + (1 : Int))).toNat).getD (v12).toNat ((0 : Int), (0 : Int))).2)]] [] (fun ret77v => .v (.c (.pI ret77v.1))) (fun ret77v => [hB 40200 [.pI c0, .pI c1, .pI c2, .p (.sl (.pr (.int .i64) (.sl (.int .i64)))) c3, .pS c4, .own 40201], (40201, [], .dict (.pr (.int .i64) t3) (.int .i64) ret77v.2)]) (fun (ret77v : Int × (List ((Int × (Int × (Int × Int))) × Int))) => VC109 n3 ret77v.1 (fun (ret78v : Int) => VCc67_k13 v58 X6 ret78v ret77v.2)) [hB 40200 [.pI c0, .pI c1, .pI c2, .p (.sl (.pr (.int .i64) (.sl (.int .i64)))) c3, .pS c4, .own 40201], (40201, [], .dict (.pr (.int .i64) t3) (.int .i64) l404015)] (fun ret77v => (⟨87, [sI 77 ret77v.1, e33b122, e33b10 c3 v31 v72 v12, sp 5 5, sp 7 7, e33b21 c3, e33b57 c3, sI 58 v58, sI 73 n3, sp 74 40200, sI 75 v58, e33b54 ret55v v72 v12, e33b117, e33b7 ret55v v72, e33b5 c3 v31 v72, e33b4 c3 v31 v72, sI 99 v12, sI 104 n2, e33b44, e33b45, e33b46, e33b47, e33b9 ret55v, e33b40, sI 130 v72, e33b8 c3 v31 v72, e33b16 c3 v31, e33b12 c3 v31, sI 187 v72, e33b48, e33b49, e33b50, e33b51, e33b52, e33b53, e33b114], [e33b22 c0 c1 c2 c3 c4, e33b63 ret77v, e33b3 ret55v v72 v12, e33b2 c3 v31 v72 v12 ret55v, e33b71, e33b6 sign over, e33b28 i3, e33b14, e33b17 v31, e33b0 c3 v31, e33b13 c6, e33b18 out]⟩ : St)) rfl rfl (by kernel_rfl) rfl (by kernel_rfl) Try.call100 (by kernel_rfl) (by kernel_rfl) (by kernel_rfl) (fun _ _ => rfl) (fun _ => by kernel_rfl) (linkcr100 c0 c1 c2 c3 c4 v58 (0 : Int) (((ret55v.drop ((v72 + (1 : Int))).toNat).getD (v12).toNat ((0 : Int), (0 : Int))).1) (((ret55v.drop ((v72 + (1 : Int))).toNat).getD (v12).toNat ((0 : Int), (0 : Int))).2) l404015 _ h) (fun ret77v h => ?_)
                      refine lpr (st' := (⟨87, [e33b122, e33b10 c3 v31 v72 v12, sp 5 5, sp 7 7, e33b21 c3, e33b57 c3, sI 58 v58, sI 73 n3, sI 77 ret77v.1, e33b117, e33b7 ret55v v72, e33b5 c3 v31 v72, e33b4 c3 v31 v72, sI 99 v12, sI 104 n2, e33b44, e33b45, e33b46, e33b47, e33b9 ret55v, e33b40, sI 130 v72, e33b8 c3 v31 v72, e33b16 c3 v31, e33b12 c3 v31, sI 187 v72, e33b48, e33b49, e33b50, e33b51, e33b52, e33b53, e33b114], [e33b3 ret55v v72 v12, e33b2 c3 v31 v72 v12 ret55v, e33b71, e33b6 sign over, e33b28 i3, e33b14, e33b17 v31, e33b0 c3 v31, e33b13 c6, e33b18 out, e33b22 c0 c1 c2 c3 c4, e33b63 ret77v]⟩ : St)) (by kernel_rfl) ?_
                      refine lcq (d := 78) [.d (.int .i64), .d (.int .i64)] (fun ret78v => (⟨87, [e33b122, e33b10 c3 v31 v72 v12, sp 5 5, sp 7 7, e33b21 c3, e33b57 c3, sI 58 v58, sI 78 ret78v, e33b117, e33b7 ret55v v72, e33b5 c3 v31 v72, e33b4 c3 v31 v72, sI 99 v12, sI 104 n2, e33b44, e33b45, e33b46, e33b47, e33b9 ret55v, e33b40, sI 130 v72, e33b8 c3 v31 v72, e33b16 c3 v31, e33b12 c3 v31, sI 187 v72, e33b48, e33b49, e33b50, e33b51, e33b52, e33b53, e33b114], [e33b3 ret55v v72 v12, e33b2 c3 v31 v72 v12 ret55v, e33b71, e33b6 sign over, e33b28 i3, e33b14, e33b17 v31, e33b0 c3 v31, e33b13 c6, e33b18 out, e33b22 c0 c1 c2 c3 c4, e33b63 ret77v]⟩ : St)) (by kernel_rfl) Try.call109 (fun _ => by kernel_rfl) (link109 n3 ret77v.1 _ h) (fun ret78v h => ?_)
                      refine rq 1 (ob := (Ts 1 True)) (st' := (⟨87, [e33b122, e33b10 c3 v31 v72 v12, sp 5 5, sp 7 7, sI 10 ret78v, e33b21 c3, e33b57 c3, sI 58 v58, e33b117, e33b7 ret55v v72, e33b5 c3 v31 v72, e33b4 c3 v31 v72, sI 99 v12, sI 104 n2, e33b44, e33b45, e33b46, e33b47, e33b9 ret55v, e33b40, sI 130 v72, e33b8 c3 v31 v72, e33b16 c3 v31, e33b12 c3 v31, sI 187 v72, e33b48, e33b49, e33b50, e33b51, e33b52, e33b53, e33b114], [e33b3 ret55v v72 v12, e33b2 c3 v31 v72 v12 ret55v, e33b71, e33b6 sign over, e33b28 i3, e33b14, e33b17 v31, e33b0 c3 v31, e33b13 c6, e33b18 out, e33b22 c0 c1 c2 c3 c4, e33b63 ret77v]⟩ : St)) (by kernel_rfl) (tsI 1 trivial) ?_
                      refine awl_nil ?_
                      exact rest12 (ret78v, ret77v.2) h
                     ·have h := h.2 hb
                      refine aw_conv [.prune [0, 1, 5, 7, 10, 56, 57, 58, 87, 89, 97, 98, 99, 104, 119, 122, 123, 125, 127, 129, 130, 131, 185, 186, 187, 221, 222, 223, 224, 225, 226, 227] [5, 7, 30000, 30001, 30002, 30003, 30004, 30005, 30006, 30400, 40400, 40401], .ren 40400 60400, .ren 40401 60401, .ren 60400 40200, .ren 60401 40201] (st' := (⟨87, [e33b122, e33b10 c3 v31 v72 v12, sp 5 5, sp 7 7, sI 10 n3, e33b21 c3, e33b57 c3, sI 58 v58, e33b117, e33b7 ret55v v72, e33b5 c3 v31 v72, e33b4 c3 v31 v72, sI 99 v12, sI 104 n2, e33b44, e33b45, e33b46, e33b47, e33b9 ret55v, e33b40, sI 130 v72, e33b8 c3 v31 v72, e33b16 c3 v31, e33b12 c3 v31, sI 187 v72, e33b48, e33b49, e33b50, e33b51, e33b52, e33b53, e33b114], [e33b3 ret55v v72 v12, e33b2 c3 v31 v72 v12 ret55v, e33b71, e33b6 sign over, e33b28 i3, e33b14, e33b17 v31, e33b0 c3 v31, e33b13 c6, e33b18 out, e33b22 c0 c1 c2 c3 c4, e33b123 l404015]⟩ : St)) (by kernel_rfl) ?_
                      refine aw_skip ?_
                      exact rest12 (n3, l404015) h
                   ·have h := h.2 hb
                    refine cpr (st' := (⟨87, [e33b61, sp 7 7, sI 10 n3, e33b62, e33b7 ret55v v72, e33b5 c3 v31 v72, e33b4 c3 v31 v72, sI 99 v12, sI 104 n2, e33b44, e33b45, e33b46, e33b47, e33b9 ret55v, e33b40, sI 130 v72, e33b8 c3 v31 v72, e33b16 c3 v31, e33b12 c3 v31, sI 187 v72, e33b48, e33b49, e33b50, e33b51, e33b52, e33b53, e33b60], [e33b2 c3 v31 v72 v12 ret55v, e33b15, e33b6 sign over, e33b28 i3, e33b14, e33b17 v31, e33b0 c3 v31, e33b13 c6, e33b18 out, e33b1 c0 c1 c2 c3 c4, e33b41 l404015]⟩ : St)) (by kernel_rfl) ?_
                    refine aw_exit ?_
                    refine thenQ_x ?_
                    refine thenQ_x ?_
                    refine blockQ_hit ?_
                    exact rest11 (n3, l404015) h
              ·have h := h.2 hb
               refine cpr (st' := (⟨28, [sI 7 n2, e33b82, e33b83, e33b84, e33b85, e33b23 ret55v, e33b80, sI 43 v72, e33b20 c3 v31 v72, e33b33 c3 v31, e33b26 c3 v31, sI 100 v72, e33b72, e33b73, e33b74, e33b75, e33b76, e33b77, e33b78], [e33b15, e33b6 sign over, e33b28 i3, e33b14, e33b17 v31, e33b0 c3 v31, e33b13 c6, e33b18 out, e33b1 c0 c1 c2 c3 c4, e33b24 l404014]⟩ : St)) (by kernel_rfl) ?_
               refine aw_exit ?_
               refine thenQ_x ?_
               refine thenQ_x ?_
               refine blockQ_hit ?_
               exact rest9 (n2, l404014) h
          ·have h := h.2 hb
           refine cpr (st' := (⟨106, [e33b95, e33b132, e33b86, e33b87, e33b88, e33b89, e33b90, e33b91, e33b81], [hA 68 3 (.int .i64) out, e33b15, e33b6 sign over, e33b28 i3, e33b14, e33b17 v31, e33b0 c3 v31, e33b13 c6, e33b1 c0 c1 c2 c3 c4, e33b31 l404013]⟩ : St)) (by kernel_rfl) ?_
           refine aw_exit ?_
           refine thenQ_x ?_
           refine thenQ_x ?_
           refine blockQ_hit ?_
           exact rest3 (out, i3, l404013) h
       ·refine aw_block ?_
        refine aw_loop (σ := Int × Int × (List ((Int × (Int × (Int × Int))) × Int))) (fun s => (⟨28, [e33b61, e33b66 ret55v, sI 7 s.1, e33b79 c3 v31, e33b67 c3 v31, sI 12 s.2.1, e33b82, e33b83, e33b84, e33b129, e33b85, e33b23 ret55v, e33b72, e33b73, e33b74, e33b75, e33b76, e33b77, e33b78], [e33b15, e33b6 sign over, e33b56 c22, e33b14, e33b17 v31, e33b0 c3 v31, e33b13 c6, e33b1 c0 c1 c2 c3 c4, (40401, [], .dict (.pr (.int .i64) t3) (.int .i64) s.2.2)]⟩ : St)) (fun s X => VCc67_l7 c0 c1 c2 c3 c4 R v31 c22 c6 Kt Kf ret55v s.1 s.2.1 s.2.2 X) (s0 := ((1 : Int), (0 : Int), c122)) (fun s X7 h => ?_) h
        obtain ⟨n, v12, l404012⟩ := s
        have h : VCc67_l7 c0 c1 c2 c3 c4 R v31 c22 c6 Kt Kf ret55v n v12 l404012 X7 := h
        unfold VCc67_l7 at h
        refine sr ?_
        refine rq 1 (ob := (Ts 1 True)) (st' := (⟨28, [e33b61, e33b66 ret55v, sI 7 n, e33b79 c3 v31, e33b67 c3 v31, sI 12 v12, sB 13 (decide (v12 < (((c3.getD (v31).toNat ((0 : Int), ([] : LI))).2).length : Int))), e33b82, e33b83, e33b84, e33b129, e33b85, e33b23 ret55v, e33b72, e33b73, e33b74, e33b75, e33b76, e33b77, e33b78], [e33b15, e33b6 sign over, e33b56 c22, e33b14, e33b17 v31, e33b0 c3 v31, e33b13 c6, e33b1 c0 c1 c2 c3 c4, e33b39 l404012]⟩ : St)) (by kernel_rfl) (tsI 1 trivial) ?_
        refine nn ?_
        refine aw_seq ?_
        refine aw_cond (b := (decide (v12 < (((c3.getD (v31).toNat ((0 : Int), ([] : LI))).2).length : Int)))) (by kernel_rfl) (fun hb => ?_) (fun hb => ?_)
        ·have h := h.1 hb
         refine aw_skip ?_
         refine thenQ_n ?_
         refine aw_seq ?_
         refine aw_block ?_
         refine sr ?_
         obtain ⟨o1, h⟩ := h
         refine rq 5 (ob := (Ts 1 (inIdx v12 ((c3.getD (v31).toNat ((0 : Int), ([] : LI))).2).length ∧ Ts 3 True))) (st' := (⟨28, [e33b61, e33b66 ret55v, sI 7 n, sI 8 v12, sI 9 (((c3.getD (v31).toNat ((0 : Int), ([] : LI))).2).getD (v12).toNat (0 : Int)), e33b79 c3 v31, e33b67 c3 v31, sI 12 v12, e33b82, e33b83, e33b84, e33b129, e33b85, e33b23 ret55v, e33b72, e33b73, e33b74, e33b75, e33b76, e33b77, e33b78], [e33b15, e33b6 sign over, e33b56 c22, e33b14, e33b17 v31, e33b0 c3 v31, e33b13 c6, e33b1 c0 c1 c2 c3 c4, e33b39 l404012]⟩ : St)) (by kernel_rfl) (tsI 1 ⟨o1, tsI 3 trivial⟩) ?_
         refine nn ?_
         refine aw_region ?_
         obtain ⟨o1, h⟩ := h
         refine rq 7 (ob := (Ts 5 (inIdx v12 ret55v.length ∧ Ts 1 True))) (st' := (⟨28, [e33b61, e33b66 ret55v, e33b79 c3 v31, e33b67 c3 v31, sI 12 v12, sI 17 n, sp 18 40400, sI 19 (((c3.getD (v31).toNat ((0 : Int), ([] : LI))).2).getD (v12).toNat (0 : Int)), sA 23 [.pI ((ret55v.getD (v12).toNat ((0 : Int), (0 : Int))).1), .pI ((ret55v.getD (v12).toNat ((0 : Int), (0 : Int))).2)], e33b82, e33b83, e33b84, e33b129, e33b85, e33b23 ret55v, e33b72, e33b73, e33b74, e33b75, e33b76, e33b77, e33b78], [e33b15, e33b6 sign over, e33b56 c22, e33b14, e33b17 v31, e33b0 c3 v31, e33b13 c6, e33b1 c0 c1 c2 c3 c4, e33b39 l404012]⟩ : St)) (by kernel_rfl) (tsI 5 ⟨o1, tsI 1 trivial⟩) ?_
         refine awl_inlr [.t 6] [30000, 30001, 30002, 30003, 30004, 30005, 30006, 40400, 40401] [.c (.ptr 40400 0), .c (.pI (((c3.getD (v31).toNat ((0 : Int), ([] : LI))).2).getD (v12).toNat (0 : Int))), .agg [.pI ((ret55v.getD (v12).toNat ((0 : Int), (0 : Int))).1), .pI ((ret55v.getD (v12).toNat ((0 : Int), (0 : Int))).2)]] [] rfl rfl (by kernel_rfl) rfl (by kernel_rfl) Try.call86 (by kernel_rfl) (by kernel_rfl) Try.func86 rfl rfl (by kernel_rfl) ?_
         refine aw_conv [] (st' := (⟨87, [e33b61, e33b32 c3 v31 v12, sA 2 [.pI ((ret55v.getD (v12).toNat ((0 : Int), (0 : Int))).1), .pI ((ret55v.getD (v12).toNat ((0 : Int), (0 : Int))).2)], e33b62, e33b35 ret55v, e33b29 c3 v31, e33b25 c3 v31, sI 99 v12, sI 104 n, sp 105 40400, sI 106 (((c3.getD (v31).toNat ((0 : Int), ([] : LI))).2).getD (v12).toNat (0 : Int)), sA 110 [.pI ((ret55v.getD (v12).toNat ((0 : Int), (0 : Int))).1), .pI ((ret55v.getD (v12).toNat ((0 : Int), (0 : Int))).2)], e33b44, e33b45, e33b46, e33b96, e33b47, e33b9 ret55v, e33b48, e33b49, e33b50, e33b51, e33b52, e33b53, e33b60], [e33b15, e33b6 sign over, e33b56 c22, e33b14, e33b17 v31, e33b0 c3 v31, e33b13 c6, e33b1 c0 c1 c2 c3 c4, e33b39 l404012]⟩ : St)) (by kernel_rfl) ?_
         refine withJoinR (σ := Int × (List ((Int × (Int × (Int × Int))) × Int))) (fun s => (⟨87, [sI 6 s.1, e33b62, e33b35 ret55v, e33b29 c3 v31, e33b25 c3 v31, sI 99 v12, sI 104 n, e33b44, e33b45, e33b46, e33b96, e33b47, e33b9 ret55v, e33b48, e33b49, e33b50, e33b51, e33b52, e33b53, e33b60], [e33b15, e33b6 sign over, e33b56 c22, e33b14, e33b17 v31, e33b0 c3 v31, e33b13 c6, e33b1 c0 c1 c2 c3 c4, (40401, [], .dict (.pr (.int .i64) t3) (.int .i64) s.2)]⟩ : St)) (fun s => VCc67_k14 n v12 X7 s.1 s.2) (fun s h => ?_) (fun rest14 => ?_)
         ·obtain ⟨v6, l404013⟩ := s
          have h : VCc67_k14 n v12 X7 v6 l404013 := h
          unfold VCc67_k14 at h
          refine inlR_n (ob := True) (.v (.c (.pI v6))) (by kernel_rfl) trivial rfl ?_
          refine lpr (st' := (⟨28, [e33b61, e33b66 ret55v, e33b79 c3 v31, e33b67 c3 v31, sI 12 v12, sI 17 n, sI 24 v6, e33b82, e33b83, e33b84, e33b129, e33b85, e33b23 ret55v, e33b72, e33b73, e33b74, e33b75, e33b76, e33b77, e33b78], [e33b15, e33b6 sign over, e33b56 c22, e33b14, e33b17 v31, e33b0 c3 v31, e33b13 c6, e33b1 c0 c1 c2 c3 c4, e33b31 l404013]⟩ : St)) (by kernel_rfl) ?_
          refine lcq (d := 25) [.d (.int .i64), .d (.int .i64)] (fun ret25v => (⟨28, [e33b61, e33b66 ret55v, e33b79 c3 v31, e33b67 c3 v31, sI 12 v12, sI 25 ret25v, e33b82, e33b83, e33b84, e33b129, e33b85, e33b23 ret55v, e33b72, e33b73, e33b74, e33b75, e33b76, e33b77, e33b78], [e33b15, e33b6 sign over, e33b56 c22, e33b14, e33b17 v31, e33b0 c3 v31, e33b13 c6, e33b1 c0 c1 c2 c3 c4, e33b31 l404013]⟩ : St)) (by kernel_rfl) Try.call124 (fun _ => by kernel_rfl) (link124 n v6 _ h) (fun ret25v h => ?_)
          refine rq 1 (ob := (Ts 1 True)) (st' := (⟨28, [e33b61, e33b66 ret55v, sI 7 ret25v, e33b79 c3 v31, e33b67 c3 v31, sI 12 v12, e33b82, e33b83, e33b84, e33b129, e33b85, e33b23 ret55v, e33b72, e33b73, e33b74, e33b75, e33b76, e33b77, e33b78], [e33b15, e33b6 sign over, e33b56 c22, e33b14, e33b17 v31, e33b0 c3 v31, e33b13 c6, e33b1 c0 c1 c2 c3 c4, e33b31 l404013]⟩ : St)) (by kernel_rfl) (tsI 1 trivial) ?_
          refine awl_nil ?_
          refine blockQ_n ?_
          refine thenQ_n ?_
          refine aw_region ?_
          obtain ⟨o1, h⟩ := h
          refine rq 2 (ob := (InR (v12 + (1 : Int)) ∧ Ts 1 True)) (st' := (⟨28, [e33b61, e33b66 ret55v, sI 7 ret25v, e33b79 c3 v31, e33b67 c3 v31, sI 12 (v12 + (1 : Int)), e33b82, e33b83, e33b84, e33b129, e33b85, e33b23 ret55v, e33b72, e33b73, e33b74, e33b75, e33b76, e33b77, e33b78], [e33b15, e33b6 sign over, e33b56 c22, e33b14, e33b17 v31, e33b0 c3 v31, e33b13 c6, e33b1 c0 c1 c2 c3 c4, e33b31 l404013]⟩ : St)) (by kernel_rfl) (⟨o1, tsI 1 trivial⟩) ?_
          refine awl_nil ?_
          exact thenQ_n ⟨(ret25v, (v12 + (1 : Int)), l404013), rfl, h⟩
         ·refine sr ?_
          refine rq 2 (ob := (Ts 2 True)) (st' := (⟨87, [e33b61, e33b32 c3 v31 v12, sp 5 5, e33b62, e33b35 ret55v, e33b29 c3 v31, e33b25 c3 v31, sI 99 v12, sI 104 n, e33b44, e33b45, e33b46, e33b96, e33b47, e33b9 ret55v, e33b48, e33b49, e33b50, e33b51, e33b52, e33b53, e33b60], [e33b19 ret55v v12, e33b15, e33b6 sign over, e33b56 c22, e33b14, e33b17 v31, e33b0 c3 v31, e33b13 c6, e33b1 c0 c1 c2 c3 c4, e33b39 l404012]⟩ : St)) (by kernel_rfl) (tsI 2 trivial) ?_
          refine nn ?_
          refine aw_seq ?_
          refine sr ?_
          refine rq 7 (ob := (Ts 7 True)) (st' := (⟨87, [e33b61, e33b32 c3 v31 v12, sp 5 5, sB 19 (decide ((((c3.getD (v31).toNat ((0 : Int), ([] : LI))).2).getD (v12).toNat (0 : Int)) < c0)), e33b62, e33b35 ret55v, e33b29 c3 v31, e33b25 c3 v31, sI 99 v12, sI 104 n, e33b44, e33b45, e33b46, e33b96, e33b47, e33b9 ret55v, e33b48, e33b49, e33b50, e33b51, e33b52, e33b53, e33b60], [e33b19 ret55v v12, e33b15, e33b6 sign over, e33b56 c22, e33b14, e33b17 v31, e33b0 c3 v31, e33b13 c6, e33b1 c0 c1 c2 c3 c4, e33b39 l404012]⟩ : St)) (by kernel_rfl) (tsI 7 trivial) ?_
          refine nn ?_
          refine aw_cond (b := (decide ((((c3.getD (v31).toNat ((0 : Int), ([] : LI))).2).getD (v12).toNat (0 : Int)) < c0))) (by kernel_rfl) (fun hb => ?_) (fun hb => ?_)
          ·have h := h.1 hb
           refine aw_seq ?_
           refine aw_seq ?_
           refine awd_begin [] (by kernel_rfl) ?_
           obtain ⟨o1, o2, h⟩ := h
           refine drq (by kernel_rfl) [0, 1, 2, 3, 4, 5, 6, 7, 8, 9, 10, 11, 12, 13, 14, 15, 16, 17] (ob := (Ts 4 (InR ((ret55v.getD (v12).toNat ((0 : Int), (0 : Int))).1 + (1 : Int)) ∧ Ts 2 (Ti 6 ((decide ((ret55v.getD (v12).toNat ((0 : Int), (0 : Int))).2 = ((ret55v.getD (v12).toNat ((0 : Int), (0 : Int))).1 + (1 : Int)))) = true → True) (((decide ((ret55v.getD (v12).toNat ((0 : Int), (0 : Int))).2 = ((ret55v.getD (v12).toNat ((0 : Int), (0 : Int))).1 + (1 : Int)))) = true → inIdx ((ret55v.getD (v12).toNat ((0 : Int), (0 : Int))).1) c4.length) ∧ Ti 3 ((decide ((ret55v.getD (v12).toNat ((0 : Int), (0 : Int))).2 = ((ret55v.getD (v12).toNat ((0 : Int), (0 : Int))).1 + (1 : Int)))) = true → True) (Ts 1 True)))))) (done' := [17, 16, 15, 14, 13, 12, 11, 10, 9, 8, 7, 6, 5, 4, 3, 2, 1, 0]) (st' := (⟨87, [sB 37 ((decide ((ret55v.getD (v12).toNat ((0 : Int), (0 : Int))).2 = ((ret55v.getD (v12).toNat ((0 : Int), (0 : Int))).1 + (1 : Int)))) && (decide ((c4.getD ((ret55v.getD (v12).toNat ((0 : Int), (0 : Int))).1).toNat (0 : Int)) = (((c3.getD (v31).toNat ((0 : Int), ([] : LI))).2).getD (v12).toNat (0 : Int))))), e33b62, e33b35 ret55v, e33b29 c3 v31, e33b25 c3 v31, sI 99 v12, sI 104 n, e33b44, e33b45, e33b46, e33b96, e33b47, e33b9 ret55v, e33b48, e33b49, e33b50, e33b51, e33b52, e33b53, e33b60], [e33b15, e33b6 sign over, e33b56 c22, e33b14, e33b17 v31, e33b0 c3 v31, e33b13 c6, e33b1 c0 c1 c2 c3 c4, e33b39 l404012]⟩ : St)) (by kernel_rfl) (tsI 4 (⟨o1, tsI 2 (tiI 6 (fun _ => trivial) ⟨o2, tiI 3 (fun _ => trivial) (tsI 1 trivial)⟩)⟩)) ?_
           refine awd_done (by kernel_rfl) ?_
           refine thenQ_n ?_
           refine aw_cond (b := ((decide ((ret55v.getD (v12).toNat ((0 : Int), (0 : Int))).2 = ((ret55v.getD (v12).toNat ((0 : Int), (0 : Int))).1 + (1 : Int)))) && (decide ((c4.getD ((ret55v.getD (v12).toNat ((0 : Int), (0 : Int))).1).toNat (0 : Int)) = (((c3.getD (v31).toNat ((0 : Int), ([] : LI))).2).getD (v12).toNat (0 : Int)))))) (by kernel_rfl) (fun hb => ?_) (fun hb => ?_)
           ·have h := h.1 hb
            refine sr ?_
            refine rq 1 (ob := (Ts 1 True)) (st' := (⟨87, [sI 6 (1 : Int), e33b62, e33b35 ret55v, e33b29 c3 v31, e33b25 c3 v31, sI 99 v12, sI 104 n, e33b44, e33b45, e33b46, e33b96, e33b47, e33b9 ret55v, e33b48, e33b49, e33b50, e33b51, e33b52, e33b53, e33b60], [e33b15, e33b6 sign over, e33b56 c22, e33b14, e33b17 v31, e33b0 c3 v31, e33b13 c6, e33b1 c0 c1 c2 c3 c4, e33b39 l404012]⟩ : St)) (by kernel_rfl) (tsI 1 trivial) ?_
            refine nn ?_
            refine aw_ret ?_
            refine thenQ_r ?_
            refine thenQ_r ?_
            exact rest14 ((1 : Int), l404012) h
           ·have h := h.2 hb
            refine aw_skip ?_
            refine thenQ_n ?_
            refine sr ?_
            refine rq 1 (ob := (Ts 1 True)) (st' := (⟨87, [sI 6 (0 : Int), e33b62, e33b35 ret55v, e33b29 c3 v31, e33b25 c3 v31, sI 99 v12, sI 104 n, e33b44, e33b45, e33b46, e33b96, e33b47, e33b9 ret55v, e33b48, e33b49, e33b50, e33b51, e33b52, e33b53, e33b60], [e33b15, e33b6 sign over, e33b56 c22, e33b14, e33b17 v31, e33b0 c3 v31, e33b13 c6, e33b1 c0 c1 c2 c3 c4, e33b39 l404012]⟩ : St)) (by kernel_rfl) (tsI 1 trivial) ?_
            refine nn ?_
            refine aw_ret ?_
            refine thenQ_r ?_
            exact rest14 ((0 : Int), l404012) h
          ·have h := h.2 hb
           refine aw_skip ?_
           refine thenQ_n ?_
           refine sr ?_
           refine rq 5 (ob := (Ts 5 True)) (st' := (⟨87, [e33b61, e33b32 c3 v31 v12, sp 5 5, sp 7 7, e33b62, e33b35 ret55v, e33b29 c3 v31, e33b25 c3 v31, sI 99 v12, sI 104 n, e33b44, e33b45, e33b46, e33b96, e33b47, e33b9 ret55v, e33b48, e33b49, e33b50, e33b51, e33b52, e33b53, e33b60], [e33b19 ret55v v12, e33b11 c3 v31 v12 ret55v, e33b15, e33b6 sign over, e33b56 c22, e33b14, e33b17 v31, e33b0 c3 v31, e33b13 c6, e33b1 c0 c1 c2 c3 c4, e33b39 l404012]⟩ : St)) (by kernel_rfl) (tsI 5 trivial) ?_
           refine nn ?_
           refine aw_seq ?_
           refine aw_seq ?_
           refine awd_begin [] (by kernel_rfl) ?_
           refine drq (by kernel_rfl) [0, 1, 2, 3, 4, 5, 6, 7, 8, 9, 10] (ob := (Ts 11 True)) (done' := [10, 9, 8, 7, 6, 5, 4, 3, 2, 1, 0]) (st' := (⟨87, [e33b61, e33b32 c3 v31 v12, sp 5 5, sp 7 7, sI 8 ((mget l404012 ((-1 : Int), ((((c3.getD (v31).toNat ((0 : Int), ([] : LI))).2).getD (v12).toNat (0 : Int)), (ret55v.getD (v12).toNat ((0 : Int), (0 : Int)))))).getD (0 : Int)), sB 9 ((mget l404012 ((-1 : Int), ((((c3.getD (v31).toNat ((0 : Int), ([] : LI))).2).getD (v12).toNat (0 : Int)), (ret55v.getD (v12).toNat ((0 : Int), (0 : Int)))))).isSome), e33b62, e33b35 ret55v, e33b29 c3 v31, e33b25 c3 v31, sI 99 v12, sI 104 n, e33b44, e33b45, e33b46, e33b96, e33b47, e33b9 ret55v, e33b48, e33b49, e33b50, e33b51, e33b52, e33b53, e33b60], [e33b19 ret55v v12, e33b11 c3 v31 v12 ret55v, e33b15, e33b6 sign over, e33b56 c22, e33b14, e33b17 v31, e33b0 c3 v31, e33b13 c6, e33b1 c0 c1 c2 c3 c4, e33b39 l404012]⟩ : St)) (by kernel_rfl) (tsI 11 trivial) ?_
           refine awd_done (by kernel_rfl) ?_
           refine thenQ_n ?_
           refine sr ?_
           refine rq 1 (ob := (Ts 1 True)) (st' := (⟨87, [e33b61, e33b32 c3 v31 v12, sp 5 5, sp 7 7, sI 8 ((mget l404012 ((-1 : Int), ((((c3.getD (v31).toNat ((0 : Int), ([] : LI))).2).getD (v12).toNat (0 : Int)), (ret55v.getD (v12).toNat ((0 : Int), (0 : Int)))))).getD (0 : Int)), sB 50 ((mget l404012 ((-1 : Int), ((((c3.getD (v31).toNat ((0 : Int), ([] : LI))).2).getD (v12).toNat (0 : Int)), (ret55v.getD (v12).toNat ((0 : Int), (0 : Int)))))).isSome), e33b62, e33b35 ret55v, e33b29 c3 v31, e33b25 c3 v31, sI 99 v12, sI 104 n, e33b44, e33b45, e33b46, e33b96, e33b47, e33b9 ret55v, e33b48, e33b49, e33b50, e33b51, e33b52, e33b53, e33b60], [e33b19 ret55v v12, e33b11 c3 v31 v12 ret55v, e33b15, e33b6 sign over, e33b56 c22, e33b14, e33b17 v31, e33b0 c3 v31, e33b13 c6, e33b1 c0 c1 c2 c3 c4, e33b39 l404012]⟩ : St)) (by kernel_rfl) (tsI 1 trivial) ?_
           refine nn ?_
           refine aw_cond (b := (mget l404012 ((-1 : Int), ((((c3.getD (v31).toNat ((0 : Int), ([] : LI))).2).getD (v12).toNat (0 : Int)), (ret55v.getD (v12).toNat ((0 : Int), (0 : Int)))))).isSome) (by kernel_rfl) (fun hb => ?_) (fun hb => ?_)
           ·have h := h.1 hb
            refine sr ?_
            refine rq 2 (ob := (Ts 2 True)) (st' := (⟨87, [sI 6 ((mget l404012 ((-1 : Int), ((((c3.getD (v31).toNat ((0 : Int), ([] : LI))).2).getD (v12).toNat (0 : Int)), (ret55v.getD (v12).toNat ((0 : Int), (0 : Int)))))).getD (0 : Int)), e33b62, e33b35 ret55v, e33b29 c3 v31, e33b25 c3 v31, sI 99 v12, sI 104 n, e33b44, e33b45, e33b46, e33b96, e33b47, e33b9 ret55v, e33b48, e33b49, e33b50, e33b51, e33b52, e33b53, e33b60], [e33b15, e33b6 sign over, e33b56 c22, e33b14, e33b17 v31, e33b0 c3 v31, e33b13 c6, e33b1 c0 c1 c2 c3 c4, e33b39 l404012]⟩ : St)) (by kernel_rfl) (tsI 2 trivial) ?_
            refine nn ?_
            refine aw_ret ?_
            refine thenQ_r ?_
            exact rest14 (((mget l404012 ((-1 : Int), ((((c3.getD (v31).toNat ((0 : Int), ([] : LI))).2).getD (v12).toNat (0 : Int)), (ret55v.getD (v12).toNat ((0 : Int), (0 : Int)))))).getD (0 : Int)), l404012) h
           ·have h := h.2 hb
            refine aw_skip ?_
            refine thenQ_n ?_
            refine sr ?_
            refine rq 1 (ob := (Ts 1 True)) (st' := (⟨87, [e33b61, e33b32 c3 v31 v12, sp 5 5, sp 7 7, sI 10 (0 : Int), e33b62, e33b35 ret55v, e33b29 c3 v31, e33b25 c3 v31, sI 99 v12, sI 104 n, e33b44, e33b45, e33b46, e33b96, e33b47, e33b9 ret55v, e33b48, e33b49, e33b50, e33b51, e33b52, e33b53, e33b60], [e33b19 ret55v v12, e33b11 c3 v31 v12 ret55v, e33b15, e33b6 sign over, e33b56 c22, e33b14, e33b17 v31, e33b0 c3 v31, e33b13 c6, e33b1 c0 c1 c2 c3 c4, e33b39 l404012]⟩ : St)) (by kernel_rfl) (tsI 1 trivial) ?_
            refine nn ?_
            refine aw_seq ?_
            refine sr ?_
            refine rq 7 (ob := (Ts 7 True)) (st' := (⟨87, [e33b61, e33b32 c3 v31 v12, sp 5 5, sp 7 7, sI 10 (0 : Int), e33b21 c3, e33b57 c3, sI 58 (0 : Int), e33b62, e33b35 ret55v, e33b29 c3 v31, e33b25 c3 v31, sI 99 v12, sI 104 n, e33b44, e33b45, e33b46, e33b96, e33b47, e33b9 ret55v, e33b48, e33b49, e33b50, e33b51, e33b52, e33b53, e33b60], [e33b19 ret55v v12, e33b11 c3 v31 v12 ret55v, e33b15, e33b6 sign over, e33b56 c22, e33b14, e33b17 v31, e33b0 c3 v31, e33b13 c6, e33b1 c0 c1 c2 c3 c4, e33b39 l404012]⟩ : St)) (by kernel_rfl) (tsI 7 trivial) ?_
            refine nn ?_
            refine withJoin (σ := Int × (List ((Int × (Int × (Int × Int))) × Int))) (fun s => (⟨87, [e33b61, sp 7 7, sI 10 s.1, e33b62, e33b35 ret55v, e33b29 c3 v31, e33b25 c3 v31, sI 99 v12, sI 104 n, e33b44, e33b45, e33b46, e33b96, e33b47, e33b9 ret55v, e33b48, e33b49, e33b50, e33b51, e33b52, e33b53, e33b60], [e33b11 c3 v31 v12 ret55v, e33b15, e33b6 sign over, e33b56 c22, e33b14, e33b17 v31, e33b0 c3 v31, e33b13 c6, e33b1 c0 c1 c2 c3 c4, (40401, [], .dict (.pr (.int .i64) t3) (.int .i64) s.2)]⟩ : St)) (fun s => VCc67_k15 c3 v31 ret55v n v12 X7 s.1 s.2) (fun s h => ?_) (fun rest15 => ?_)
            ·obtain ⟨n2, l404013⟩ := s
             have h : VCc67_k15 c3 v31 ret55v n v12 X7 n2 l404013 := h
             unfold VCc67_k15 at h
             refine thenQ_n ?_
             refine aw_seq ?_
             refine awd_begin [40401] (by kernel_rfl) ?_
             refine drq (by kernel_rfl) [0, 1, 2, 3, 4, 5] (ob := (Ts 6 True)) (done' := [5, 4, 3, 2, 1, 0]) (st' := (⟨87, [sI 10 n2, s1 83 (.own 40401), sA 84 [.pI (-1 : Int), .pI (((c3.getD (v31).toNat ((0 : Int), ([] : LI))).2).getD (v12).toNat (0 : Int)), .pI ((ret55v.getD (v12).toNat ((0 : Int), (0 : Int))).1), .pI ((ret55v.getD (v12).toNat ((0 : Int), (0 : Int))).2)], sI 85 n2, e33b62, e33b35 ret55v, e33b29 c3 v31, e33b25 c3 v31, sI 99 v12, sI 104 n, e33b44, e33b45, e33b46, e33b96, e33b47, e33b9 ret55v, e33b48, e33b49, e33b50, e33b51, e33b52, e33b53, e33b60], [e33b15, e33b6 sign over, e33b56 c22, e33b14, e33b17 v31, e33b0 c3 v31, e33b13 c6, e33b1 c0 c1 c2 c3 c4, e33b31 l404013]⟩ : St)) (by kernel_rfl) (tsI 6 trivial) ?_
             refine awd_one (i := 6) (by kernel_rfl) ?_
             refine dsq (ob := True) (st' := (⟨87, [sI 10 n2, e33b62, e33b35 ret55v, e33b29 c3 v31, e33b25 c3 v31, sI 99 v12, sI 104 n, e33b44, e33b45, e33b46, e33b96, e33b47, e33b9 ret55v, e33b48, e33b49, e33b50, e33b51, e33b52, e33b53, e33b60], [e33b15, e33b6 sign over, e33b56 c22, e33b14, e33b17 v31, e33b0 c3 v31, e33b13 c6, e33b1 c0 c1 c2 c3 c4, (40401, [], .dict (.pr (.int .i64) t3) (.int .i64) (mset l404013 ((-1 : Int), ((((c3.getD (v31).toNat ((0 : Int), ([] : LI))).2).getD (v12).toNat (0 : Int)), (ret55v.getD (v12).toNat ((0 : Int), (0 : Int))))) n2))]⟩ : St)) rfl (by kernel_rfl) trivial ?_
             refine awd_done (by kernel_rfl) ?_
             refine thenQ_n ?_
             refine sr ?_
             refine rq 2 (ob := (Ts 2 True)) (st' := (⟨87, [sI 6 n2, e33b62, e33b35 ret55v, e33b29 c3 v31, e33b25 c3 v31, sI 99 v12, sI 104 n, e33b44, e33b45, e33b46, e33b96, e33b47, e33b9 ret55v, e33b48, e33b49, e33b50, e33b51, e33b52, e33b53, e33b60], [e33b15, e33b6 sign over, e33b56 c22, e33b14, e33b17 v31, e33b0 c3 v31, e33b13 c6, e33b1 c0 c1 c2 c3 c4, (40401, [], .dict (.pr (.int .i64) t3) (.int .i64) (mset l404013 ((-1 : Int), ((((c3.getD (v31).toNat ((0 : Int), ([] : LI))).2).getD (v12).toNat (0 : Int)), (ret55v.getD (v12).toNat ((0 : Int), (0 : Int))))) n2))]⟩ : St)) (by kernel_rfl) (tsI 2 trivial) ?_
             refine nn ?_
             refine aw_ret ?_
             exact rest14 (n2, (mset l404013 ((-1 : Int), ((((c3.getD (v31).toNat ((0 : Int), ([] : LI))).2).getD (v12).toNat (0 : Int)), (ret55v.getD (v12).toNat ((0 : Int), (0 : Int))))) n2)) h
            ·refine aw_block ?_
             refine aw_loop (σ := Int × Int × (List ((Int × (Int × (Int × Int))) × Int))) (fun s => (⟨87, [e33b61, e33b32 c3 v31 v12, sp 5 5, sp 7 7, sI 10 s.1, e33b21 c3, e33b57 c3, sI 58 s.2.1, e33b62, e33b35 ret55v, e33b29 c3 v31, e33b25 c3 v31, sI 99 v12, sI 104 n, e33b44, e33b45, e33b46, e33b96, e33b47, e33b9 ret55v, e33b48, e33b49, e33b50, e33b51, e33b52, e33b53, e33b60], [e33b19 ret55v v12, e33b11 c3 v31 v12 ret55v, e33b15, e33b6 sign over, e33b56 c22, e33b14, e33b17 v31, e33b0 c3 v31, e33b13 c6, e33b1 c0 c1 c2 c3 c4, (40401, [], .dict (.pr (.int .i64) t3) (.int .i64) s.2.2)]⟩ : St)) (fun s X => VCc67_l8 c0 c1 c2 c3 c4 v31 ret55v n v12 X7 s.1 s.2.1 s.2.2 X) (s0 := ((0 : Int), (0 : Int), l404012)) (fun s X8 h => ?_) h
             obtain ⟨n2, v58, l404013⟩ := s
             have h : VCc67_l8 c0 c1 c2 c3 c4 v31 ret55v n v12 X7 n2 v58 l404013 X8 := h
             unfold VCc67_l8 at h
             refine sr ?_
             refine rq 1 (ob := (Ts 1 True)) (st' := (⟨87, [e33b61, e33b32 c3 v31 v12, sp 5 5, sp 7 7, sI 10 n2, e33b21 c3, e33b57 c3, sI 58 v58, sB 59 (decide (v58 < (c3.length : Int))), e33b62, e33b35 ret55v, e33b29 c3 v31, e33b25 c3 v31, sI 99 v12, sI 104 n, e33b44, e33b45, e33b46, e33b96, e33b47, e33b9 ret55v, e33b48, e33b49, e33b50, e33b51, e33b52, e33b53, e33b60], [e33b19 ret55v v12, e33b11 c3 v31 v12 ret55v, e33b15, e33b6 sign over, e33b56 c22, e33b14, e33b17 v31, e33b0 c3 v31, e33b13 c6, e33b1 c0 c1 c2 c3 c4, e33b31 l404013]⟩ : St)) (by kernel_rfl) (tsI 1 trivial) ?_
             refine nn ?_
             refine aw_seq ?_
             refine aw_cond (b := (decide (v58 < (c3.length : Int)))) (by kernel_rfl) (fun hb => ?_) (fun hb => ?_)
             ·have h := h.1 hb
              refine aw_skip ?_
              refine thenQ_n ?_
              refine aw_seq ?_
              refine aw_block ?_
              refine sr ?_
              obtain ⟨o1, h⟩ := h
              refine rq 6 (ob := (Ts 1 (inIdx v58 c3.length ∧ Ts 4 True))) (st' := (⟨87, [e33b61, e33b32 c3 v31 v12, sp 5 5, sp 7 7, sI 10 n2, sI 11 v58, sp 12 12, e33b21 c3, e33b57 c3, sI 58 v58, e33b62, e33b35 ret55v, e33b29 c3 v31, e33b25 c3 v31, sI 99 v12, sI 104 n, e33b44, e33b45, e33b46, e33b96, e33b47, e33b9 ret55v, e33b48, e33b49, e33b50, e33b51, e33b52, e33b53, e33b60], [e33b19 ret55v v12, e33b11 c3 v31 v12 ret55v, e33b108 c3 v58, e33b15, e33b6 sign over, e33b56 c22, e33b14, e33b17 v31, e33b0 c3 v31, e33b13 c6, e33b1 c0 c1 c2 c3 c4, e33b31 l404013]⟩ : St)) (by kernel_rfl) (tsI 1 ⟨o1, tsI 4 trivial⟩) ?_
              refine nn ?_
              refine aw_seq ?_
              refine awd_begin [] (by kernel_rfl) ?_
              obtain ⟨o1, h⟩ := h
              refine drq (by kernel_rfl) [0, 1, 2, 3, 4, 5, 6, 7, 8, 9] (ob := (Ts 8 (InR ((((c3.getD (v31).toNat ((0 : Int), ([] : LI))).2).getD (v12).toNat (0 : Int)) - c0) ∧ Ts 1 True))) (done' := [9, 8, 7, 6, 5, 4, 3, 2, 1, 0]) (st' := (⟨87, [e33b61, e33b32 c3 v31 v12, sp 5 5, sp 7 7, sI 10 n2, sI 11 v58, e33b21 c3, e33b57 c3, sI 58 v58, sB 72 (decide ((c3.getD (v58).toNat ((0 : Int), ([] : LI))).1 = ((((c3.getD (v31).toNat ((0 : Int), ([] : LI))).2).getD (v12).toNat (0 : Int)) - c0))), e33b62, e33b35 ret55v, e33b29 c3 v31, e33b25 c3 v31, sI 99 v12, sI 104 n, e33b44, e33b45, e33b46, e33b96, e33b47, e33b9 ret55v, e33b48, e33b49, e33b50, e33b51, e33b52, e33b53, e33b60], [e33b19 ret55v v12, e33b11 c3 v31 v12 ret55v, e33b15, e33b6 sign over, e33b56 c22, e33b14, e33b17 v31, e33b0 c3 v31, e33b13 c6, e33b1 c0 c1 c2 c3 c4, e33b31 l404013]⟩ : St)) (by kernel_rfl) (tsI 8 ⟨o1, tsI 1 trivial⟩) ?_
              refine awd_done (by kernel_rfl) ?_
              refine thenQ_n ?_
              refine withJoin (σ := Int × (List ((Int × (Int × (Int × Int))) × Int))) (fun s => (⟨87, [e33b122, e33b32 c3 v31 v12, sp 5 5, sp 7 7, sI 10 s.1, e33b21 c3, e33b57 c3, sI 58 v58, e33b117, e33b35 ret55v, e33b29 c3 v31, e33b25 c3 v31, sI 99 v12, sI 104 n, e33b44, e33b45, e33b46, e33b96, e33b47, e33b9 ret55v, e33b48, e33b49, e33b50, e33b51, e33b52, e33b53, e33b114], [e33b19 ret55v v12, e33b11 c3 v31 v12 ret55v, e33b71, e33b6 sign over, e33b56 c22, e33b14, e33b17 v31, e33b0 c3 v31, e33b13 c6, e33b22 c0 c1 c2 c3 c4, (40201, [], .dict (.pr (.int .i64) t3) (.int .i64) s.2)]⟩ : St)) (fun s => VCc67_k16 v58 X8 s.1 s.2) (fun s h => ?_) (fun rest16 => ?_)
              ·obtain ⟨n3, l40201⟩ := s
               have h : VCc67_k16 v58 X8 n3 l40201 := h
               unfold VCc67_k16 at h
               refine blockQ_n ?_
               refine thenQ_n ?_
               refine aw_region ?_
               obtain ⟨o1, h⟩ := h
               refine rq 2 (ob := (InR (v58 + (1 : Int)) ∧ Ts 1 True)) (st' := (⟨87, [e33b122, e33b32 c3 v31 v12, sp 5 5, sp 7 7, sI 10 n3, e33b21 c3, e33b57 c3, sI 58 (v58 + (1 : Int)), e33b117, e33b35 ret55v, e33b29 c3 v31, e33b25 c3 v31, sI 99 v12, sI 104 n, e33b44, e33b45, e33b46, e33b96, e33b47, e33b9 ret55v, e33b48, e33b49, e33b50, e33b51, e33b52, e33b53, e33b114], [e33b19 ret55v v12, e33b11 c3 v31 v12 ret55v, e33b71, e33b6 sign over, e33b56 c22, e33b14, e33b17 v31, e33b0 c3 v31, e33b13 c6, e33b22 c0 c1 c2 c3 c4, (40201, [], .dict (.pr (.int .i64) t3) (.int .i64) l40201)]⟩ : St)) (by kernel_rfl) (⟨o1, tsI 1 trivial⟩) ?_
               refine awl_conv [.ren 40200 60200, .ren 40201 60201, .ren 60200 40400, .ren 60201 40401] (st' := (⟨87, [e33b61, e33b32 c3 v31 v12, sp 5 5, sp 7 7, sI 10 n3, e33b21 c3, e33b57 c3, sI 58 (v58 + (1 : Int)), e33b62, e33b35 ret55v, e33b29 c3 v31, e33b25 c3 v31, sI 99 v12, sI 104 n, e33b44, e33b45, e33b46, e33b96, e33b47, e33b9 ret55v, e33b48, e33b49, e33b50, e33b51, e33b52, e33b53, e33b60], [e33b19 ret55v v12, e33b11 c3 v31 v12 ret55v, e33b15, e33b6 sign over, e33b56 c22, e33b14, e33b17 v31, e33b0 c3 v31, e33b13 c6, e33b1 c0 c1 c2 c3 c4, (40401, [], .dict (.pr (.int .i64) t3) (.int .i64) l40201)]⟩ : St)) (by kernel_rfl) ?_
               refine awl_nil ?_
               exact thenQ_n ⟨(n3, (v58 + (1 : Int)), l40201), rfl, h⟩
              ·refine aw_cond (b := (decide ((c3.getD (v58).toNat ((0 : Int), ([] : LI))).1 = ((((c3.getD (v31).toNat ((0 : Int), ([] : LI))).2).getD (v12).toNat (0 : Int)) - c0)))) (by kernel_rfl) (fun hb => ?_) (fun hb => ?_)
               ·have h := h.1 hb
                refine aw_region ?_
                refine rq 4 (ob := (Ts 4 True)) (st' := (⟨87, [e33b61, e33b32 c3 v31 v12, sp 5 5, sp 7 7, e33b21 c3, e33b57 c3, sI 58 v58, sI 73 n2, sp 74 40400, sI 75 v58, e33b104 ret55v v12, e33b62, e33b35 ret55v, e33b29 c3 v31, e33b25 c3 v31, sI 99 v12, sI 104 n, e33b44, e33b45, e33b46, e33b96, e33b47, e33b9 ret55v, e33b48, e33b49, e33b50, e33b51, e33b52, e33b53, e33b60], [e33b19 ret55v v12, e33b11 c3 v31 v12 ret55v, e33b15, e33b6 sign over, e33b56 c22, e33b14, e33b17 v31, e33b0 c3 v31, e33b13 c6, e33b1 c0 c1 c2 c3 c4, e33b31 l404013]⟩ : St)) (by kernel_rfl) (tsI 4 trivial) ?_
                refine awl_conv [.ren 40400 40200, .ren 40401 40201] (st' := (⟨87, [e33b122, e33b32 c3 v31 v12, sp 5 5, sp 7 7, e33b21 c3, e33b57 c3, sI 58 v58, sI 73 n2, sp 74 40200, sI 75 v58, e33b104 ret55v v12, e33b117, e33b35 ret55v, e33b29 c3 v31, e33b25 c3 v31, sI 99 v12, sI 104 n, e33b44, e33b45, e33b46, e33b96, e33b47, e33b9 ret55v, e33b48, e33b49, e33b50, e33b51, e33b52, e33b53, e33b114], [e33b19 ret55v v12, e33b11 c3 v31 v12 ret55v, e33b71, e33b6 sign over, e33b56 c22, e33b14, e33b17 v31, e33b0 c3 v31, e33b13 c6, e33b22 c0 c1 c2 c3 c4, (40201, [], .dict (.pr (.int .i64) t3) (.int .i64) l404013)]⟩ : St)) (by kernel_rfl) ?_
                refine awl_lcall (σ := Int × (List ((Int × (Int × (Int × Int))) × Int))) [40200, 40201] [40200] [.c (.ptr 40200 0), .c (.pI v58), .c (.pI (0 : Int)), .agg [.pI ((ret55v.getD (v12).toNat ((0 : Int), (0 : Int))).1), .pI ((ret55v.getD (v12).toNat ((0 : Int), (0 : Int))).2)]] [] (fun ret77v => .v (.c (.pI ret77v.1))) (fun ret77v => [hB 40200 [.pI c0, .pI c1, .pI c2, .p (.sl (.pr (.int .i64) (.sl (.int .i64)))) c3, .pS c4, .own 40201], (40201, [], .dict (.pr (.int .i64) t3) (.int .i64) ret77v.2)]) (fun (ret77v : Int × (List ((Int × (Int × (Int × Int))) × Int))) => VC109 n2 ret77v.1 (fun (ret78v : Int) => VCc67_k16 v58 X8 ret78v ret77v.2)) [hB 40200 [.pI c0, .pI c1, .pI c2, .p (.sl (.pr (.int .i64) (.sl (.int .i64)))) c3, .pS c4, .own 40201], (40201, [], .dict (.pr (.int .i64) t3) (.int .i64) l404013)] (fun ret77v => (⟨87, [sI 77 ret77v.1, e33b122, e33b32 c3 v31 v12, sp 5 5, sp 7 7, e33b21 c3, e33b57 c3, sI 58 v58, sI 73 n2, sp 74 40200, sI 75 v58, e33b104 ret55v v12, e33b117, e33b35 ret55v, e33b29 c3 v31, e33b25 c3 v31, sI 99 v12, sI 104 n, e33b44, e33b45, e33b46, e33b96, e33b47, e33b9 ret55v, e33b48, e33b49, e33b50, e33b51, e33b52, e33b53, e33b114], [e33b22 c0 c1 c2 c3 c4, e33b63 ret77v, e33b19 ret55v v12, e33b11 c3 v31 v12 ret55v, e33b71, e33b6 sign over, e33b56 c22, e33b14, e33b17 v31, e33b0 c3 v31, e33b13 c6]⟩ : St)) rfl rfl (by kernel_rfl) rfl (by kernel_rfl) Try.call100 (by kernel_rfl) (by kernel_rfl) (by kernel_rfl) (fun _ _ => rfl) (fun _ => by kernel_rfl) (linkcr100 c0 c1 c2 c3 c4 v58 (0 : Int) ((ret55v.getD (v12).toNat ((0 : Int), (0 : Int))).1) ((ret55v.getD (v12).toNat ((0 : Int), (0 : Int))).2) l404013 _ h) (fun ret77v h => ?_)
                refine lpr (st' := (⟨87, [e33b122, e33b32 c3 v31 v12, sp 5 5, sp 7 7, e33b21 c3, e33b57 c3, sI 58 v58, sI 73 n2, sI 77 ret77v.1, e33b117, e33b35 ret55v, e33b29 c3 v31, e33b25 c3 v31, sI 99 v12, sI 104 n, e33b44, e33b45, e33b46, e33b96, e33b47, e33b9 ret55v, e33b48, e33b49, e33b50, e33b51, e33b52, e33b53, e33b114], [e33b19 ret55v v12, e33b11 c3 v31 v12 ret55v, e33b71, e33b6 sign over, e33b56 c22, e33b14, e33b17 v31, e33b0 c3 v31, e33b13 c6, e33b22 c0 c1 c2 c3 c4, e33b63 ret77v]⟩ : St)) (by kernel_rfl) ?_
                refine lcq (d := 78) [.d (.int .i64), .d (.int .i64)] (fun ret78v => (⟨87, [e33b122, e33b32 c3 v31 v12, sp 5 5, sp 7 7, e33b21 c3, e33b57 c3, sI 58 v58, sI 78 ret78v, e33b117, e33b35 ret55v, e33b29 c3 v31, e33b25 c3 v31, sI 99 v12, sI 104 n, e33b44, e33b45, e33b46, e33b96, e33b47, e33b9 ret55v, e33b48, e33b49, e33b50, e33b51, e33b52, e33b53, e33b114], [e33b19 ret55v v12, e33b11 c3 v31 v12 ret55v, e33b71, e33b6 sign over, e33b56 c22, e33b14, e33b17 v31, e33b0 c3 v31, e33b13 c6, e33b22 c0 c1 c2 c3 c4, e33b63 ret77v]⟩ : St)) (by kernel_rfl) Try.call109 (fun _ => by kernel_rfl) (link109 n2 ret77v.1 _ h) (fun ret78v h => ?_)
                refine rq 1 (ob := (Ts 1 True)) (st' := (⟨87, [e33b122, e33b32 c3 v31 v12, sp 5 5, sp 7 7, sI 10 ret78v, e33b21 c3, e33b57 c3, sI 58 v58, e33b117, e33b35 ret55v, e33b29 c3 v31, e33b25 c3 v31, sI 99 v12, sI 104 n, e33b44, e33b45, e33b46, e33b96, e33b47, e33b9 ret55v, e33b48, e33b49, e33b50, e33b51, e33b52, e33b53, e33b114], [e33b19 ret55v v12, e33b11 c3 v31 v12 ret55v, e33b71, e33b6 sign over, e33b56 c22, e33b14, e33b17 v31, e33b0 c3 v31, e33b13 c6, e33b22 c0 c1 c2 c3 c4, e33b63 ret77v]⟩ : St)) (by kernel_rfl) (tsI 1 trivial) ?_
                refine awl_nil ?_
                exact rest16 (ret78v, ret77v.2) h
               ·have h := h.2 hb
                refine aw_conv [.prune [0, 1, 5, 7, 10, 56, 57, 58, 87, 89, 97, 98, 99, 104, 119, 122, 123, 124, 125, 127, 221, 222, 223, 224, 225, 226, 227] [5, 7, 30000, 30001, 30002, 30003, 30004, 30005, 30006, 40400, 40401], .ren 40400 60400, .ren 40401 60401, .ren 60400 40200, .ren 60401 40201] (st' := (⟨87, [e33b122, e33b32 c3 v31 v12, sp 5 5, sp 7 7, sI 10 n2, e33b21 c3, e33b57 c3, sI 58 v58, e33b117, e33b35 ret55v, e33b29 c3 v31, e33b25 c3 v31, sI 99 v12, sI 104 n, e33b44, e33b45, e33b46, e33b96, e33b47, e33b9 ret55v, e33b48, e33b49, e33b50, e33b51, e33b52, e33b53, e33b114], [e33b19 ret55v v12, e33b11 c3 v31 v12 ret55v, e33b71, e33b6 sign over, e33b56 c22, e33b14, e33b17 v31, e33b0 c3 v31, e33b13 c6, e33b22 c0 c1 c2 c3 c4, (40201, [], .dict (.pr (.int .i64) t3) (.int .i64) l404013)]⟩ : St)) (by kernel_rfl) ?_
                refine aw_skip ?_
                exact rest16 (n2, l404013) h
             ·have h := h.2 hb
              refine cpr (st' := (⟨87, [e33b61, sp 7 7, sI 10 n2, e33b62, e33b35 ret55v, e33b29 c3 v31, e33b25 c3 v31, sI 99 v12, sI 104 n, e33b44, e33b45, e33b46, e33b96, e33b47, e33b9 ret55v, e33b48, e33b49, e33b50, e33b51, e33b52, e33b53, e33b60], [e33b11 c3 v31 v12 ret55v, e33b15, e33b6 sign over, e33b56 c22, e33b14, e33b17 v31, e33b0 c3 v31, e33b13 c6, e33b1 c0 c1 c2 c3 c4, e33b31 l404013]⟩ : St)) (by kernel_rfl) ?_
              refine aw_exit ?_
              refine thenQ_x ?_
              refine thenQ_x ?_
              refine blockQ_hit ?_
              exact rest15 (n2, l404013) h
        ·have h := h.2 hb
         refine cpr (st' := (⟨28, [sI 7 n, e33b82, e33b83, e33b84, e33b129, e33b85, e33b23 ret55v, e33b72, e33b73, e33b74, e33b75, e33b76, e33b77, e33b78], [e33b15, e33b6 sign over, e33b56 c22, e33b14, e33b17 v31, e33b0 c3 v31, e33b13 c6, e33b1 c0 c1 c2 c3 c4, e33b39 l404012]⟩ : St)) (by kernel_rfl) ?_
         refine aw_exit ?_
         refine thenQ_x ?_
         refine thenQ_x ?_
         refine blockQ_hit ?_
         exact rest13 (n, l404012) h
      refine aw_conv [] (st' := (⟨8, [s1 0 (.yv 37100), e33b118 c3 v31, s1 2 (.ad (.pr (.int .i64) (.int .i64)) (sign, over)), e33b131, sI 9 c, sp 12 30000, sp 14 30001, sp 15 30002, sp 16 30003, sp 17 30004, sp 18 30005, e33b92 c3, e33b127 c3, sI 39 v31, s1 58 (.fn 121 [(⟨(.int .i64), (((c3.getD (v31).toNat ((0 : Int), ([] : LI))).2).length : Int)⟩ : Dat), (⟨(.pr (.int .i64) (.int .i64)), (sign, over)⟩ : Dat)]), sp 114 40400], [(37100, [], .lp lr1 (0 : Int) (VCc67_s1 30000 30001 30002 30003 30004 30005 c)), e33b15, e33b6 sign over, e33b125 i2, e33b14, e33b17 v31, e33b0 c3 v31, e33b109 l6160, e33b1 c0 c1 c2 c3 c4, e33b43 l40401]⟩ : St)) (by kernel_rfl) ?_
      refine sr ?_
      refine rq 1 (ob := (Ts 1 True)) (st' := (⟨8, [e33b118 c3 v31, s1 2 (.ad (.pr (.int .i64) (.int .i64)) (sign, over)), sp 3 3, sI 9 c, sp 12 30000, sp 14 30001, sp 15 30002, sp 16 30003, e33b92 c3, e33b127 c3, sI 39 v31, sp 114 40400, e33b131], [hB 3 [.yv 37100], e33b15, e33b6 sign over, e33b125 i2, e33b14, e33b17 v31, e33b0 c3 v31, e33b109 l6160, (37100, [], .lp lr1 (0 : Int) (VCc67_s1 30000 30001 30002 30003 30004 30005 c)), e33b1 c0 c1 c2 c3 c4, e33b43 l40401]⟩ : St)) (by kernel_rfl) (tsI 1 trivial) ?_
      refine nsr ?_
      refine rq 1 (ob := (Ts 1 True)) (st' := (⟨8, [e33b118 c3 v31, s1 2 (.ad (.pr (.int .i64) (.int .i64)) (sign, over)), sp 3 3, sp 4 4, sI 9 c, sp 12 30000, sp 14 30001, sp 15 30002, sp 16 30003, e33b92 c3, e33b127 c3, sI 39 v31, sp 114 40400, e33b131], [hB 3 [.yv 37100], hB 4 [.any], e33b15, e33b6 sign over, e33b125 i2, e33b14, e33b17 v31, e33b0 c3 v31, e33b109 l6160, (37100, [], .lp lr1 (0 : Int) (VCc67_s1 30000 30001 30002 30003 30004 30005 c)), e33b1 c0 c1 c2 c3 c4, e33b43 l40401]⟩ : St)) (by kernel_rfl) (tsI 1 trivial) ?_
      refine nsr ?_
      refine rq 2 (ob := (Ts 2 True)) (st' := (⟨8, [sp 4 4, sI 9 c, sp 12 30000, sp 14 30001, sp 15 30002, sp 16 30003, e33b92 c3, e33b127 c3, sI 39 v31, sp 114 40400, e33b131], [hB 3 [.yv 37100], e33b110 c3 v31 sign over, e33b15, e33b6 sign over, e33b125 i2, e33b14, e33b17 v31, e33b0 c3 v31, e33b109 l6160, (37100, [], .lp lr1 (0 : Int) (VCc67_s1 30000 30001 30002 30003 30004 30005 c)), e33b1 c0 c1 c2 c3 c4, e33b43 l40401]⟩ : St)) (by kernel_rfl) (tsI 2 trivial) ?_
      refine nn ?_
      refine aw_region ?_
      refine rq 1 (ob := (Ts 1 True)) (st' := (⟨8, [s1 6 (.cl 122 [.ad ⟨(.int .i64), (((c3.getD (v31).toNat ((0 : Int), ([] : LI))).2).length : Int)⟩, .pt 3 0, .ad ⟨(.pr (.int .i64) (.int .i64)), (sign, over)⟩, .pt 4 0]), sI 9 c, sp 12 30000, sp 14 30001, sp 15 30002, sp 16 30003, e33b92 c3, e33b127 c3, sI 39 v31, sp 114 40400, e33b131], [hB 3 [.yv 37100], e33b110 c3 v31 sign over, e33b15, e33b6 sign over, e33b125 i2, e33b14, e33b17 v31, e33b0 c3 v31, e33b109 l6160, (37100, [], .lp lr1 (0 : Int) (VCc67_s1 30000 30001 30002 30003 30004 30005 c)), e33b1 c0 c1 c2 c3 c4, e33b43 l40401]⟩ : St)) (by kernel_rfl) (tsI 1 trivial) ?_
      refine awl_conv [.ren 3 40800, .ren 4 40811] (st' := (⟨8, [e33b106 c3 v31 sign over, sI 9 c, sp 12 30000, sp 14 30001, sp 15 30002, sp 16 30003, e33b92 c3, e33b127 c3, sI 39 v31, sp 114 40400, e33b131], [hB 40800 [.yv 37100], e33b105 c3 v31 sign over, e33b15, e33b6 sign over, e33b125 i2, e33b14, e33b17 v31, e33b0 c3 v31, e33b109 l6160, (37100, [], .lp lr1 (0 : Int) (VCc67_s1 30000 30001 30002 30003 30004 30005 c)), e33b1 c0 c1 c2 c3 c4, e33b43 l40401]⟩ : St)) (by kernel_rfl) ?_
      refine awl_lcall (σ := Bool × Int × (List ((Int × (Int × (Int × Int))) × Int)) × Int × LI) [40800, 37100, 30000, 40400, 40401, 30001, 30002, 30003, 30006, 30004, 30005, 40811] [40800, 37100, 30000, 40400, 30001, 30002, 30003, 30004, 30005, 40811] [.c (.nils)] [.c (.ad (.int .i64) (((c3.getD (v31).toNat ((0 : Int), ([] : LI))).2).length : Int)), .c (.ptr 40800 0), .c (.ad (.pr (.int .i64) (.int .i64)) (sign, over)), .c (.ptr 40811 0)] (fun ret7v => .v (.c (.pB ret7v.1))) (fun ret7v => [hB 40800 [.yv 37100], (37100, [], .lp lr1 ret7v.2.1 (VCc67_s1 30000 30001 30002 30003 30004 30005 c)), hB 30000 [.ptr 40400 0], hB 40400 [.pI c0, .pI c1, .pI c2, .p (.sl (.pr (.int .i64) (.sl (.int .i64)))) c3, .pS c4, .own 40401], (40401, [], .dict (.pr (.int .i64) t3) (.int .i64) ret7v.2.2.1), hB 30001 [.pI sign, .pI over], hB 30002 [.pI ret7v.2.2.2.1], hB 30003 [.own 30006], hA 30006 3 (.int .i64) ret7v.2.2.2.2, hB 30004 [.pI v31], hB 30005 [.pI ((c3.getD (v31).toNat ((0 : Int), ([] : LI))).1), .pS ((c3.getD (v31).toNat ((0 : Int), ([] : LI))).2)], hB 40811 [.cl 122 [.ad ⟨(.int .i64), (((c3.getD (v31).toNat ((0 : Int), ([] : LI))).2).length : Int)⟩, .pt 40800 0, .ad ⟨(.pr (.int .i64) (.int .i64)), (sign, over)⟩, .pt 40811 0]]]) (fun (ret7v : Bool × Int × (List ((Int × (Int × (Int × Int))) × Int)) × Int × LI) => ((decide (ret7v.2.1 = (0 : Int)) = true → VCc67_k2 v31 X1 ret7v.2.2.2.1 ret7v.2.2.2.2 ret7v.2.2.1) ∧ (decide (ret7v.2.1 = (0 : Int)) = false → (ret7v.2.1 = (1 : Int) ∧ K (ret7v.2.2.2.2, ret7v.2.2.1))))) [hB 40800 [.yv 37100], (37100, [], .lp lr1 (0 : Int) (VCc67_s1 30000 30001 30002 30003 30004 30005 c)), hB 30000 [.ptr 40400 0], hB 40400 [.pI c0, .pI c1, .pI c2, .p (.sl (.pr (.int .i64) (.sl (.int .i64)))) c3, .pS c4, .own 40401], (40401, [], .dict (.pr (.int .i64) t3) (.int .i64) l40401), hB 30001 [.pI sign, .pI over], hB 30002 [.pI i2], hB 30003 [.own 30006], hA 30006 3 (.int .i64) l6160, hB 30004 [.pI v31], hB 30005 [.pI ((c3.getD (v31).toNat ((0 : Int), ([] : LI))).1), .pS ((c3.getD (v31).toNat ((0 : Int), ([] : LI))).2)], hB 40811 [.cl 122 [.ad ⟨(.int .i64), (((c3.getD (v31).toNat ((0 : Int), ([] : LI))).2).length : Int)⟩, .pt 40800 0, .ad ⟨(.pr (.int .i64) (.int .i64)), (sign, over)⟩, .pt 40811 0]]] (fun ret7v => (⟨8, [sB 7 ret7v.1, e33b106 c3 v31 sign over, sI 9 c, sp 12 30000, sp 14 30001, sp 15 30002, sp 16 30003, e33b92 c3, e33b127 c3, sI 39 v31, sp 114 40400, e33b131], [hB 40800 [.yv 37100], (37100, [], .lp lr1 ret7v.2.1 (VCc67_s1 30000 30001 30002 30003 30004 30005 c)), e33b15, e33b1 c0 c1 c2 c3 c4, e33b119 ret7v, e33b6 sign over, hB 30002 [.pI ret7v.2.2.2.1], e33b14, hA 30006 3 (.int .i64) ret7v.2.2.2.2, e33b17 v31, e33b0 c3 v31, e33b105 c3 v31 sign over]⟩ : St)) rfl rfl (by kernel_rfl) rfl (by kernel_rfl) Try.call122 (by kernel_rfl) (by kernel_rfl) (by kernel_rfl) (fun _ _ => rfl) (fun _ => by kernel_rfl) (lcalls_nil [some (.int .i64)] (linkcr122y4 lr1 c (((c3.getD (v31).toNat ((0 : Int), ([] : LI))).2).length : Int) (sign, over) c0 c1 c2 c3 c4 sign over v31 ((c3.getD (v31).toNat ((0 : Int), ([] : LI))).1) ((c3.getD (v31).toNat ((0 : Int), ([] : LI))).2) (VCc67_y1 c0 c1 c2 c3 c4 R sign v31) hY1 ([] : List Int) (0 : Int) l40401 i2 l6160 _ h)) (fun ret7v h => ?_)
      refine lpr (st' := (⟨8, [sI 9 c, sp 12 30000, sp 14 30001, sp 15 30002, sp 16 30003, e33b92 c3, e33b127 c3, sI 39 v31, sp 114 40400, e33b131], [e33b15, e33b6 sign over, hB 30002 [.pI ret7v.2.2.2.1], e33b14, e33b17 v31, e33b0 c3 v31, hA 30006 3 (.int .i64) ret7v.2.2.2.2, (37100, [], .lp lr1 ret7v.2.1 (VCc67_s1 30000 30001 30002 30003 30004 30005 c)), e33b1 c0 c1 c2 c3 c4, e33b119 ret7v]⟩ : St)) (by kernel_rfl) ?_
      refine awl_nil ?_
      refine rfQ_n ret7v.2.1 (VCc67_s1 30000 30001 30002 30003 30004 30005 c) rfl (by kernel_rfl) (by kernel_rfl) ⟨fun hk => ?_, fun hk0 hk => ?_, fun hk0 hk1 => ?_⟩
      ·have h := h.1 (decide_eq_true hk)
       refine cq [.prune [1, 4, 6, 7, 8, 29, 30, 31, 106] [30000, 30001, 30002, 30003, 30006, 40400, 40401], .ren 30000 50000, .ren 30001 50001, .ren 30002 50002, .ren 30003 50003, .ren 30006 50006, .ren 50000 4, .ren 50001 6, .ren 50002 7, .ren 50003 8, .ren 50006 6160] (s' := (⟨106, [sI 1 c, sp 4 4, sp 6 6, sp 7 7, sp 8 8, e33b64 c3, e33b112 c3, sI 31 v31, e33b116], [e33b120, e33b111 sign over, hB 7 [.pI ret7v.2.2.2.1], e33b126, hA 6160 3 (.int .i64) ret7v.2.2.2.2, e33b1 c0 c1 c2 c3 c4, e33b119 ret7v]⟩ : St)) (by kernel_rfl) ?_
       refine blockQ_n ?_
       refine blockQ_n ?_
       exact rest2 (ret7v.2.2.2.1, ret7v.2.2.2.2, ret7v.2.2.1) h
      ·have h := h.2 (decide_eq_false hk0)
       obtain ⟨hk2, h⟩ := h
       refine cq [.freeze 30006, .prune [8, 106] [40400, 40401, 30003]] (s' := (⟨106, [e33b95, e33b116], [e33b1 c0 c1 c2 c3 c4, e33b119 ret7v, hB 30003 [.pS ret7v.2.2.2.2]]⟩ : St)) (by kernel_rfl) ?_
       refine blockQ_r ?_
       refine blockQ_r ?_
       refine thenQ_r ?_
       refine thenQ_r ?_
       refine blockQ_r ?_
       refine thenQ_r ?_
       exact lret_r (σ := LI × (List ((Int × (Int × (Int × Int))) × Int))) (A := fun y => .v (.c (.pS y.1))) (H := fun y => [hB 40400 [.pI c0, .pI c1, .pI c2, .p (.sl (.pr (.int .i64) (.sl (.int .i64)))) c3, .pS c4, .own 40401], (40401, [], .dict (.pr (.int .i64) t3) (.int .i64) y.2)]) (ob := True) (ret7v.2.2.2.2, ret7v.2.2.1) (by kernel_rfl) trivial rfl (by kernel_rfl) (by kernel_rfl) (by kernel_rfl) h
      ·have h := h.2 (decide_eq_false hk0)
       obtain ⟨hk2, h⟩ := h
       exact absurd hk2 hk1
   ·have h := h.2 hb
    refine cpr (st' := (⟨106, [sp 8 8, e33b116], [e33b126, e33b130 l6160, e33b1 c0 c1 c2 c3 c4, e33b43 l40401]⟩ : St)) (by kernel_rfl) ?_
    refine aw_exit ?_
    refine thenQ_x ?_
    refine thenQ_x ?_
    refine blockQ_hit ?_
    exact rest1 (l6160, l40401) h

def VCc67_it (c0 : Int) (c1 : Int) (c2 : Int) (c3 : (List (Int × LI))) (c4 : LI) : Nat → Int → Int → Int → Int → (List ((Int × (Int × (Int × Int))) × Int)) → (LI × (List ((Int × (Int × (Int × Int))) × Int)) → Prop) → Prop
  | 0 => fun _ _ _ _ _ _ => False
  | n + 1 => fun c sign over i c5 K => VCc67 c0 c1 c2 c3 c4 (VCc67_it c0 c1 c2 c3 c4 n) c sign over i c5 K

def VCcr67 (c0 : Int) (c1 : Int) (c2 : Int) (c3 : (List (Int × LI))) (c4 : LI) (c : Int) (sign : Int) (over : Int) (i : Int) (c5 : (List ((Int × (Int × (Int × Int))) × Int))) (K : LI × (List ((Int × (Int × (Int × Int))) × Int)) → Prop) : Prop := ∃ n, VCc67_it c0 c1 c2 c3 c4 n c sign over i c5 K

theorem linkci67 (c0 : Int) (c1 : Int) (c2 : Int) (c3 : (List (Int × LI))) (c4 : LI) : ∀ (n : Nat) (c : Int) (sign : Int) (over : Int) (i : Int) (c5 : (List ((Int × (Int × (Int × Int))) × Int))) (K : LI × (List ((Int × (Int × (Int × Int))) × Int)) → Prop), VCc67_it c0 c1 c2 c3 c4 n c sign over i c5 K → LCalls Try.prog 67 [40400, 40401] [40400] [hB 40400 [.pI c0, .pI c1, .pI c2, .p (.sl (.pr (.int .i64) (.sl (.int .i64)))) c3, .pS c4, .own 40401], (40401, [], .dict (.pr (.int .i64) t3) (.int .i64) c5)] [.c (.ptr 40400 0), .c (.pI c), .agg [.pI sign, .pI over], .c (.pI i)] (fun av hp' => ∃ y : LI × (List ((Int × (Int × (Int × Int))) × Int)), av = .v (.c (.pS y.1)) ∧ hp' = [hB 40400 [.pI c0, .pI c1, .pI c2, .p (.sl (.pr (.int .i64) (.sl (.int .i64)))) c3, .pS c4, .own 40401], (40401, [], .dict (.pr (.int .i64) t3) (.int .i64) y.2)] ∧ K y)
  | 0, _, _, _, _, _, _, h => False.elim h
  | n + 1, c, sign, over, i, c5, K, h => linkc67 c0 c1 c2 c3 c4 (VCc67_it c0 c1 c2 c3 c4 n) (linkci67 c0 c1 c2 c3 c4 n) c sign over i c5 K h

theorem linkcr67 (c0 : Int) (c1 : Int) (c2 : Int) (c3 : (List (Int × LI))) (c4 : LI) (c : Int) (sign : Int) (over : Int) (i : Int) (c5 : (List ((Int × (Int × (Int × Int))) × Int))) (K : LI × (List ((Int × (Int × (Int × Int))) × Int)) → Prop) (h : VCcr67 c0 c1 c2 c3 c4 c sign over i c5 K) : LCalls Try.prog 67 [40400, 40401] [40400] [hB 40400 [.pI c0, .pI c1, .pI c2, .p (.sl (.pr (.int .i64) (.sl (.int .i64)))) c3, .pS c4, .own 40401], (40401, [], .dict (.pr (.int .i64) t3) (.int .i64) c5)] [.c (.ptr 40400 0), .c (.pI c), .agg [.pI sign, .pI over], .c (.pI i)] (fun av hp' => ∃ y : LI × (List ((Int × (Int × (Int × Int))) × Int)), av = .v (.c (.pS y.1)) ∧ hp' = [hB 40400 [.pI c0, .pI c1, .pI c2, .p (.sl (.pr (.int .i64) (.sl (.int .i64)))) c3, .pS c4, .own 40401], (40401, [], .dict (.pr (.int .i64) t3) (.int .i64) y.2)] ∧ K y) := by
  obtain ⟨n, h⟩ := h
  exact linkci67 c0 c1 c2 c3 c4 n c sign over i c5 K h

end Dec
