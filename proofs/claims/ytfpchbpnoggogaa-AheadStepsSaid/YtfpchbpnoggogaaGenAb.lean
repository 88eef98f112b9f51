/-
  Printed by dec2.py: of each function its plain demand, and that the demand gives the contract.
-/
import Derived.Test.YtfpchbpnoggogaaGenAa
set_option linter.unusedVariables false
set_option linter.unusedSimpArgs false
set_option maxRecDepth 100000
namespace Dec
open Go Go.RowKit Go.Proofs
abbrev e29a0 (ret23v : Int × Int × Int × LR × Int × LI × LI) : Nat × Path × Con := hB 50000 [.pI ret23v.1, .pI ret23v.2.1, .pI ret23v.2.2.1, .p (.sl tR) ret23v.2.2.2.1, .own 50001, .own 50002, .pW ret23v.2.2.2.2.1]
abbrev e29a1 (ret23v : Int × Int × Int × LR × Int × LI × LI) : Nat × Path × Con := hA 50001 28 (.int .u32) ret23v.2.2.2.2.2.1
abbrev e29a2 (ret23v : Int × Int × Int × LR × Int × LI × LI) : Nat × Path × Con := hA 50002 28 (.int .u32) ret23v.2.2.2.2.2.2
abbrev e29a3 (g : TG) : Nat × Path × Con := hB 30000 [.pI g.1, .pI g.2.1, .pI g.2.2.1, .p (.sl tR) g.2.2.2]
abbrev e29a4 (ret23v : Int × Int × Int × LR × Int × LI × LI) (v19 : Int) : Nat × Path × Con := hB 31100 [.pI ((ret23v.2.2.2.1.getD (v19).toNat ((0 : Int), ([] : LI))).1), .pS ((ret23v.2.2.2.1.getD (v19).toNat ((0 : Int), ([] : LI))).2)]
abbrev e29a5 (l32 : LI) (g : TG) (sym : Int) : Nat × Path × AV := s1 105 (.cl 56 [.ad ⟨tI, (l32.getD ((((l32.length : Int) - (1 : Int))).toNat) (0 : Int))⟩, .ad ⟨tG, g⟩, .pt 30001 0, .ad ⟨tI, sym⟩])
abbrev e29a6 (l32 : LI) : Nat × Path × Con := hB 30200 [.vw 30201 0 ((((l32.length : Int) - (1 : Int))).toNat) 1]
abbrev e29a7 : Nat × Path × Con := hB 30001 [.ptr 50000 0]
abbrev e29a8 (g : TG) : Nat × Path × AV := s1 2 (.ad tG g)
abbrev e29a9 (ret23v : Int × Int × Int × LR × Int × LI × LI) (v19 : Int) : Nat × Path × Con := hB 31300 [.pI ((ret23v.2.2.2.1.getD (v19).toNat ((0 : Int), ([] : LI))).1), .pS ((ret23v.2.2.2.1.getD (v19).toNat ((0 : Int), ([] : LI))).2)]
abbrev e29a10 (l32 : LI) (g : TG) (sym : Int) : Nat × Path × AV := s1 22 (.cl 56 [.ad ⟨tI, (l32.getD ((((l32.length : Int) - (1 : Int))).toNat) (0 : Int))⟩, .ad ⟨tG, g⟩, .pt 30001 0, .ad ⟨tI, sym⟩])
abbrev e29a11 (g : TG) (v8 : Int) : Nat × Path × Con := hB 30900 [.pI ((g.2.2.2.getD (v8).toNat ((0 : Int), ([] : LI))).1), .pS ((g.2.2.2.getD (v8).toNat ((0 : Int), ([] : LI))).2)]
abbrev e29a12 (g : TG) : Nat × Path × AV := s1 21 (.ad tG g)
abbrev e29a13 (g : TG) (v8 : Int) (l32 : LI) : Nat × Path × AV := sB 97 (decide ((g.2.2.2.getD (v8).toNat ((0 : Int), ([] : LI))).1 = ((l32.getD ((((l32.length : Int) - (1 : Int))).toNat) (0 : Int)) - g.1)))
abbrev e29a14 (l32 : LI) (g : TG) (sym : Int) : Nat × Path × AV := s1 48 (.cl 56 [.ad ⟨tI, (l32.getD ((((l32.length : Int) - (1 : Int))).toNat) (0 : Int))⟩, .ad ⟨tG, g⟩, .pt 30001 0, .ad ⟨tI, sym⟩])
abbrev e29a15 (l32 : LI) (g : TG) (sym : Int) : Nat × Path × AV := s1 1 (.cl 56 [.ad ⟨tI, (l32.getD ((((l32.length : Int) - (1 : Int))).toNat) (0 : Int))⟩, .ad ⟨tG, g⟩, .pt 30001 0, .ad ⟨tI, sym⟩])
abbrev e29a16 (g : TG) : Nat × Path × AV := s1 125 (.ad tG g)
abbrev e29a17 (l32 : LI) : Nat × Path × Con := hA 30201 3 tI l32
abbrev e29a18 (g : TG) (v8 : Int) (l32 : LI) : Nat × Path × AV := sB 40 (decide ((g.2.2.2.getD (v8).toNat ((0 : Int), ([] : LI))).1 = ((l32.getD ((((l32.length : Int) - (1 : Int))).toNat) (0 : Int)) - g.1)))
abbrev e29a19 (g : TG) : Nat × Path × AV := s1 42 (.ad tG g)
abbrev e29a20 (ret23v : Int × Int × Int × LR × Int × LI × LI) : Nat × Path × AV := s1 100 (.p (.sl tR) ret23v.2.2.2.1)
abbrev e29a21 (g : TG) : Nat × Path × AV := s1 68 (.ad tG g)
abbrev e29a22 (g : TG) : Nat × Path × AV := s1 104 (.p (.sl tR) g.2.2.2)
abbrev e29a23 (seen : LI) : Nat × Path × Con := hA 31101 28 (.int .u32) seen
abbrev e29a24 (g : TG) : Nat × Path × Con := hB 2 [.pI g.1, .pI g.2.1, .pI g.2.2.1, .p (.sl tR) g.2.2.2]
abbrev e29a25 (g : TG) (v4 : Int) : Nat × Path × AV := s1 1 (.ad (.sl tI) ((g.2.2.2.getD (v4).toNat ((0 : Int), ([] : LI))).2))
abbrev e29a26 (g : TG) (v8 : Int) (l32 : LI) : Nat × Path × AV := sB 14 (decide ((g.2.2.2.getD (v8).toNat ((0 : Int), ([] : LI))).1 = ((l32.getD ((((l32.length : Int) - (1 : Int))).toNat) (0 : Int)) - g.1)))
abbrev e29a27 (ret23v : Int × Int × Int × LR × Int × LI × LI) (v19 : Int) : Nat × Path × AV := sI 10 (((ret23v.2.2.2.1.getD (v19).toNat ((0 : Int), ([] : LI))).2).length : Int)
abbrev e29a28 (ret23v : Int × Int × Int × LR × Int × LI × LI) : Nat × Path × AV := s1 17 (.p (.sl tR) ret23v.2.2.2.1)
abbrev e29a29 (ret23v : Int × Int × Int × LR × Int × LI × LI) : Nat × Path × AV := s1 43 (.p (.sl tR) ret23v.2.2.2.1)
abbrev e29a30 (g : TG) (v8 : Int) : Nat × Path × AV := sI 10 (((g.2.2.2.getD (v8).toNat ((0 : Int), ([] : LI))).2).length : Int)
abbrev e29a31 (l32 : LI) : Nat × Path × Con := hB 9 [.vw 32 0 ((((l32.length : Int) - (1 : Int))).toNat) 1]
abbrev e29a32 (g : TG) : Nat × Path × AV := s1 21 (.p (.sl tR) g.2.2.2)
abbrev e29a33 (ret23v : Int × Int × Int × LR × Int × LI × LI) (v19 : Int) : Nat × Path × AV := s1 9 (.pS ((ret23v.2.2.2.1.getD (v19).toNat ((0 : Int), ([] : LI))).2))
abbrev e29a34 (ret23v : Int × Int × Int × LR × Int × LI × LI) : Nat × Path × AV := sI 101 (ret23v.2.2.2.1.length : Int)
abbrev e29a35 (l32 : LI) : Nat × Path × Con := hB 11 [.pI (l32.getD ((((l32.length : Int) - (1 : Int))).toNat) (0 : Int))]
abbrev e29a36 (g : TG) : Nat × Path × AV := s1 47 (.p (.sl tR) g.2.2.2)
abbrev e29a37 (g : TG) (v8 : Int) : Nat × Path × AV := s1 9 (.pS ((g.2.2.2.getD (v8).toNat ((0 : Int), ([] : LI))).2))
abbrev e29a38 (w : LI) : Nat × Path × AV := s1 1 (.pS w)
abbrev e29a39 (g : TG) : Nat × Path × AV := sI 111 (g.2.2.2.length : Int)
abbrev e29a40 : Nat × Path × AV := sp 0 50000
abbrev e29a41 (g : TG) : Nat × Path × AV := s1 0 (.p (.sl tR) g.2.2.2)
abbrev e29a42 (l32 : LI) (g : TG) (sym : Int) : Nat × Path × AV := s1 68 (.cl 56 [.ad ⟨tI, (l32.getD ((((l32.length : Int) - (1 : Int))).toNat) (0 : Int))⟩, .ad ⟨tG, g⟩, .pt 30001 0, .ad ⟨tI, sym⟩])
abbrev e29a43 (g : TG) : Nat × Path × AV := s1 6 (.ad tG g)
abbrev e29a44 : Nat × Path × Con := hB 30200 [.own 30201]
abbrev e29a45 (ret23v : Int × Int × Int × LR × Int × LI × LI) : Nat × Path × AV := sI 18 (ret23v.2.2.2.1.length : Int)
abbrev e29a46 : Nat × Path × AV := sp 57 50000
abbrev e29a47 (ret23v : Int × Int × Int × LR × Int × LI × LI) : Nat × Path × AV := sI 44 (ret23v.2.2.2.1.length : Int)
abbrev e29a48 : Nat × Path × AV := s1 131 (.own 30202)
abbrev e29a49 : Nat × Path × AV := s1 8 (.own 5008)
abbrev e29a50 : Nat × Path × AV := s1 86 (.own 31101)
abbrev e29a51 : Nat × Path × AV := sp 7 30001
abbrev e29a52 (w : LI) : Nat × Path × AV := s1 20 (.pS w)
abbrev e29a53 (g : TG) : Nat × Path × AV := sI 28 (g.2.2.2.length : Int)
abbrev e29a54 (l32 : LI) : Nat × Path × Con := hA 32 3 tI l32
abbrev e29a55 (g : TG) : Nat × Path × AV := sI 54 (g.2.2.2.length : Int)
abbrev e29a56 (g : TG) (v8 : Int) (l32 : LI) (ret19v : Bool) : Nat × Path × AV := sB 6 ((decide ((g.2.2.2.getD (v8).toNat ((0 : Int), ([] : LI))).1 = ((l32.getD ((((l32.length : Int) - (1 : Int))).toNat) (0 : Int)) - g.1))) && ret19v)
abbrev e29a57 (g : TG) (v8 : Int) : Nat × Path × AV := (16, [(14, true)], .v (.agg [.pI ((g.2.2.2.getD (v8).toNat ((0 : Int), ([] : LI))).1), .pS ((g.2.2.2.getD (v8).toNat ((0 : Int), ([] : LI))).2)]))
abbrev e29a58 : Nat × Path × AV := sp 26 30001
abbrev e29a59 : Nat × Path × AV := sp 28 30200
abbrev e29a60 (ret23v : Int × Int × Int × LR × Int × LI × LI) (v19 : Int) (v11 : Int) : Nat × Path × AV := sI 8 (((ret23v.2.2.2.1.getD (v19).toNat ((0 : Int), ([] : LI))).2).getD (v11).toNat (0 : Int))
abbrev e29a61 (ret23v : Int × Int × Int × LR × Int × LI × LI) (v19 : Int) : Nat × Path × AV := sA 24 [.pI ((ret23v.2.2.2.1.getD (v19).toNat ((0 : Int), ([] : LI))).1), .pS ((ret23v.2.2.2.1.getD (v19).toNat ((0 : Int), ([] : LI))).2)]
abbrev e29a62 (ret23v : Int × Int × Int × LR × Int × LI × LI) (v19 : Int) : Nat × Path × Con := hB 5 [.pI ((ret23v.2.2.2.1.getD (v19).toNat ((0 : Int), ([] : LI))).1), .pS ((ret23v.2.2.2.1.getD (v19).toNat ((0 : Int), ([] : LI))).2)]
abbrev e29a63 (ret23v : Int × Int × Int × LR × Int × LI × LI) (v19 : Int) : Nat × Path × Con := hB 3 [.pI ((ret23v.2.2.2.1.getD (v19).toNat ((0 : Int), ([] : LI))).1), .pS ((ret23v.2.2.2.1.getD (v19).toNat ((0 : Int), ([] : LI))).2)]
abbrev e29a64 (w : LI) : Nat × Path × AV := s1 124 (.pS w)
abbrev e29a65 (w : LI) : Nat × Path × AV := s1 127 (.pS w)
abbrev e29a66 (w : LI) : Nat × Path × AV := s1 44 (.pS w)
abbrev e29a67 (l32 : LI) : Nat × Path × AV := s1 1 (.ad tI (l32.getD ((((l32.length : Int) - (1 : Int))).toNat) (0 : Int)))
abbrev e29a68 (g : TG) (v8 : Int) (v11 : Int) : Nat × Path × AV := sI 8 (((g.2.2.2.getD (v8).toNat ((0 : Int), ([] : LI))).2).getD (v11).toNat (0 : Int))
abbrev e29a69 : Nat × Path × AV := s1 27 (.own 30202)
abbrev e29a70 (g : TG) (v8 : Int) : Nat × Path × Con := hB 3 [.pI ((g.2.2.2.getD (v8).toNat ((0 : Int), ([] : LI))).1), .pS ((g.2.2.2.getD (v8).toNat ((0 : Int), ([] : LI))).2)]
abbrev e29a71 (g : TG) : Nat × Path × AV := s1 67 (.p (.sl tR) g.2.2.2)
abbrev e29a72 : Nat × Path × AV := s1 90019 (.yv 37000)
abbrev e29a73 (l32 : LI) : Nat × Path × Con := hA 30201 3 tI (l32.take ((((l32.length : Int) - (1 : Int))).toNat))
abbrev e29a74 : Nat × Path × AV := sp 130 30001
abbrev e29a75 : Nat × Path × AV := sp 132 30200
abbrev e29a76 : Nat × Path × AV := sp 128 30000
abbrev e29a77 : Nat × Path × AV := sp 133 30001
abbrev e29a78 : Nat × Path × AV := sp 45 30000
abbrev e29a79 : Nat × Path × AV := sp 50 30001
abbrev e29a80 : Nat × Path × AV := s1 27 (.own 30400)
abbrev e29a81 : Nat × Path × AV := s1 48 (.own 30202)
abbrev e29a82 : Nat × Path × AV := sp 60 30900
abbrev e29a83 : Nat × Path × AV := sp 60 31300
abbrev e29a84 : Nat × Path × AV := sp 83 50000
abbrev e29a85 : Nat × Path × AV := sp 88 31100
abbrev e29a86 : Nat × Path × AV := s1 74 (.own 30202)
abbrev e29a87 : Nat × Path × AV := s1 29 (.own 31101)
abbrev e29a88 (g : TG) : Nat × Path × AV := sI 7 (g.2.2.2.length : Int)
abbrev e29a89 (g : TG) (v8 : Int) : Nat × Path × AV := s1 1 (.pS ((g.2.2.2.getD (v8).toNat ((0 : Int), ([] : LI))).2))
abbrev e29a90 (g : TG) : Nat × Path × AV := sA 22 [.pI g.1, .pI g.2.1, .pI g.2.2.1, .p (.sl tR) g.2.2.2]
abbrev e29a91 : Nat × Path × AV := s1 0 (.yv 37000)
abbrev e29a92 (w : LI) : Nat × Path × AV := s1 41 (.pS w)
abbrev e29a93 : Nat × Path × AV := sp 47 30001
abbrev e29a94 : Nat × Path × AV := sp 49 30200
abbrev e29a95 : Nat × Path × Con := hB 9 [.own 32]
abbrev e29a96 : Nat × Path × AV := sp 73 30001
abbrev e29a97 : Nat × Path × AV := sp 75 30200
abbrev e29a98 : Nat × Path × AV := sp 26 50000
abbrev e29a99 : Nat × Path × AV := sp 31 31100
abbrev e29a100 : Nat × Path × AV := s1 3 (.own 31101)
abbrev e29an0 : List Nat := [30001, 30200, 30201, 30202, 50000, 50001, 50002]
abbrev e29an1 : List Nat := [0, 1, 2, 3, 4, 5, 6, 7, 8, 9, 10]
abbrev e29an2 : List Nat := [10, 9, 8, 7, 6, 5, 4, 3, 2, 1, 0]
abbrev e29an3 : List Nat := [9, 32, 5008, 30001, 50000, 50001, 50002]
abbrev e29an4 : List Nat := [0, 1, 2, 3, 4, 5, 6, 7, 8, 9, 10, 11, 12, 13, 14, 15]
abbrev e29an5 : List Nat := [15, 14, 13, 12, 11, 10, 9, 8, 7, 6, 5, 4, 3, 2, 1, 0]
abbrev e29an6 : List Nat := [14, 19, 21, 22, 26, 28, 29, 41, 42, 47, 48, 49, 50]
abbrev e29an7 : List Nat := [14, 13, 12, 10, 8, 11, 9, 7, 6, 5, 4, 3, 2, 1, 0]
abbrev e29an8 : List Nat := [12, 11, 10, 9, 8, 7, 6, 5, 4, 3, 2, 1, 0]
-- coppicer/ahead.Parse
def VC29_k2 (w : LI) (K : LI × Int → Prop) (atv : Int) (out : LI) : Prop :=
  (((decide (atv < (w.length : Int))) = true → K (([] : LI), (5 : Int))) ∧ ((decide (atv < (w.length : Int))) = false → K (out, (0 : Int))))
def VC29_k3 (X1 : Int × LI × LI → Prop) (atv2 : Int) (l322 : LI) (out2 : LI) : Prop :=
  X1 (atv2, l322, out2)
abbrev VC29_s1 (t0 : Nat) : List (Nat × AV) := [(9, .v (.c (.ptr t0 0)))]
def VC29_y1 (a83 : Int) (a84 : Int) (c0 : LI) (Kt : LI → Prop) (Kf : (Int × LI) → Prop) : Prop :=
  (roomN (c0.length + [a84].length) ∧ Kt (c0 ++ [a84]))
def VC29_k6 (atv : Int) (out : LI) (X1 : Int × LI × LI → Prop) (v4 : Int) (l30201 : LI) : Prop :=
  VC29_k3 X1 atv l30201 (out ++ [v4])
def VC29_l2 (g : TG) (atv : Int) (out : LI) (X1 : Int × LI × LI → Prop) (v4 : Int) (i : Int) (l30201 : LI) (X2 : Int × LI → Prop) : Prop :=
  (((decide ((0 : Int) ≤ i)) = true → (inIdx i ((g.2.2.2.getD (v4).toNat ((0 : Int), ([] : LI))).2).length ∧ VC29_y1 i (((g.2.2.2.getD (v4).toNat ((0 : Int), ([] : LI))).2).getD (i).toNat (0 : Int)) l30201 (fun (yt17v : LI) => (InR (i - (1 : Int)) ∧ X2 ((i - (1 : Int)), yt17v))) (fun (yf17 : Int × LI) => False))) ∧ ((decide ((0 : Int) ≤ i)) = false → VC29_k6 atv out X1 v4 l30201))
def VC29_k5 (g : TG) (K : LI × Int → Prop) (atv : Int) (l32 : LI) (out : LI) (X1 : Int × LI × LI → Prop) (v4 : Int) : Prop :=
  (((decide (v4 < (0 : Int))) = true → K (([] : LI), (5 : Int))) ∧ ((decide (v4 < (0 : Int))) = false → (roomN (out.length + [v4].length) ∧ (inIdx v4 g.2.2.2.length ∧ (InR ((((g.2.2.2.getD (v4).toNat ((0 : Int), ([] : LI))).2).length : Int) - (1 : Int)) ∧ Loop (σ := Int × LI) (fun s X => VC29_l2 g atv out X1 v4 s.1 s.2 X) (((((g.2.2.2.getD (v4).toNat ((0 : Int), ([] : LI))).2).length : Int) - (1 : Int)), (l32.take ((((l32.length : Int) - (1 : Int))).toNat))))))))
def VC29_k7 (g : TG) (K : LI × Int → Prop) (atv : Int) (l32 : LI) (out : LI) (X1 : Int × LI × LI → Prop) : Prop :=
  VC29_k5 g K atv l32 out X1 (-1 : Int)
def VC29_k8 (g : TG) (K : LI × Int → Prop) (atv : Int) (l32 : LI) (out : LI) (X1 : Int × LI × LI → Prop) (v8 : Int) (X3 : Int → Prop) (v6 : Bool) : Prop :=
  ((v6 = true → VC29_k5 g K atv l32 out X1 v8) ∧ (v6 = false → (InR (v8 + (1 : Int)) ∧ X3 (v8 + (1 : Int)))))
def VC29_k10 (g : TG) (K : LI × Int → Prop) (atv : Int) (l32 : LI) (out : LI) (X1 : Int × LI × LI → Prop) (sym : Int) (v8 : Int) (X3 : Int → Prop) (out2 : Int) : Prop :=
  gcall (α := Bool) (decide ((g.2.2.2.getD (v8).toNat ((0 : Int), ([] : LI))).1 = ((l32.getD ((((l32.length : Int) - (1 : Int))).toNat) (0 : Int)) - g.1))) (VC47 out2 sym) false (fun (ret19v : Bool) => VC29_k8 g K atv l32 out X1 v8 X3 ((decide ((g.2.2.2.getD (v8).toNat ((0 : Int), ([] : LI))).1 = ((l32.getD ((((l32.length : Int) - (1 : Int))).toNat) (0 : Int)) - g.1))) && ret19v))
def VC29_k9 (g : TG) (K : LI × Int → Prop) (ret23v : Int × Int × Int × LR × Int × LI × LI) (atv : Int) (l32 : LI) (out : LI) (X1 : Int × LI × LI → Prop) (sym : Int) (v8 : Int) (X3 : Int → Prop) (v4 : Int) (v5 : Bool) : Prop :=
  ((v5 = true → (inIdx ((g.2.2.2.getD (v8).toNat ((0 : Int), ([] : LI))).1) ret23v.2.2.2.2.2.2.length ∧ VC29_k10 g K atv l32 out X1 sym v8 X3 (bOr .u32 v4 (ret23v.2.2.2.2.2.2.getD (((g.2.2.2.getD (v8).toNat ((0 : Int), ([] : LI))).1).toNat) (0 : Int))))) ∧ (v5 = false → VC29_k10 g K atv l32 out X1 sym v8 X3 v4))
def VC29_k11 (g : TG) (K : LI × Int → Prop) (ret23v : Int × Int × Int × LR × Int × LI × LI) (atv : Int) (l32 : LI) (out : LI) (X1 : Int × LI × LI → Prop) (sym : Int) (v8 : Int) (X3 : Int → Prop) (out2 : Int) : Prop :=
  VC29_k9 g K ret23v atv l32 out X1 sym v8 X3 out2 true
def VC29_l4 (g : TG) (K : LI × Int → Prop) (ret23v : Int × Int × Int × LR × Int × LI × LI) (atv : Int) (l32 : LI) (out : LI) (X1 : Int × LI × LI → Prop) (sym : Int) (v8 : Int) (X3 : Int → Prop) (out2 : Int) (v11 : Int) (X4 : Int × Int → Prop) : Prop :=
  (((decide (v11 < (((g.2.2.2.getD (v8).toNat ((0 : Int), ([] : LI))).2).length : Int))) = true → (inIdx v11 ((g.2.2.2.getD (v8).toNat ((0 : Int), ([] : LI))).2).length ∧ (((decide ((((g.2.2.2.getD (v8).toNat ((0 : Int), ([] : LI))).2).getD (v11).toNat (0 : Int)) < ret23v.1)) = true → (0 ≤ (((g.2.2.2.getD (v8).toNat ((0 : Int), ([] : LI))).2).getD (v11).toNat (0 : Int)) ∧ VC29_k9 g K ret23v atv l32 out X1 sym v8 X3 (bOr .u32 out2 (bShl .u32 (1 : Int) (((g.2.2.2.getD (v8).toNat ((0 : Int), ([] : LI))).2).getD (v11).toNat (0 : Int)))) false)) ∧ ((decide ((((g.2.2.2.getD (v8).toNat ((0 : Int), ([] : LI))).2).getD (v11).toNat (0 : Int)) < ret23v.1)) = false → (InR ((((g.2.2.2.getD (v8).toNat ((0 : Int), ([] : LI))).2).getD (v11).toNat (0 : Int)) - ret23v.1) ∧ inIdx ((((g.2.2.2.getD (v8).toNat ((0 : Int), ([] : LI))).2).getD (v11).toNat (0 : Int)) - ret23v.1) ret23v.2.2.2.2.2.1.length ∧ (InR ((((g.2.2.2.getD (v8).toNat ((0 : Int), ([] : LI))).2).getD (v11).toNat (0 : Int)) - ret23v.1) ∧ VC47 ret23v.2.2.2.2.1 ((((g.2.2.2.getD (v8).toNat ((0 : Int), ([] : LI))).2).getD (v11).toNat (0 : Int)) - ret23v.1) (fun (ret52v : Bool) => (((!ret52v) = true → VC29_k9 g K ret23v atv l32 out X1 sym v8 X3 (bOr .u32 out2 (ret23v.2.2.2.2.2.1.getD ((((((g.2.2.2.getD (v8).toNat ((0 : Int), ([] : LI))).2).getD (v11).toNat (0 : Int)) - ret23v.1)).toNat) (0 : Int))) false) ∧ ((!ret52v) = false → (InR (v11 + (1 : Int)) ∧ X4 ((bOr .u32 out2 (ret23v.2.2.2.2.2.1.getD ((((((g.2.2.2.getD (v8).toNat ((0 : Int), ([] : LI))).2).getD (v11).toNat (0 : Int)) - ret23v.1)).toNat) (0 : Int))), (v11 + (1 : Int))))))))))))) ∧ ((decide (v11 < (((g.2.2.2.getD (v8).toNat ((0 : Int), ([] : LI))).2).length : Int))) = false → VC29_k11 g K ret23v atv l32 out X1 sym v8 X3 out2))
def VC29_l3 (g : TG) (K : LI × Int → Prop) (ret23v : Int × Int × Int × LR × Int × LI × LI) (atv : Int) (l32 : LI) (out : LI) (X1 : Int × LI × LI → Prop) (sym : Int) (v8 : Int) (X3 : Int → Prop) : Prop :=
  (((decide (v8 < (g.2.2.2.length : Int))) = true → (inIdx v8 g.2.2.2.length ∧ (InR ((l32.getD ((((l32.length : Int) - (1 : Int))).toNat) (0 : Int)) - g.1) ∧ (((decide ((g.2.2.2.getD (v8).toNat ((0 : Int), ([] : LI))).1 = ((l32.getD ((((l32.length : Int) - (1 : Int))).toNat) (0 : Int)) - g.1))) = true → Loop (σ := Int × Int) (fun s X => VC29_l4 g K ret23v atv l32 out X1 sym v8 X3 s.1 s.2 X) ((0 : Int), (0 : Int))) ∧ ((decide ((g.2.2.2.getD (v8).toNat ((0 : Int), ([] : LI))).1 = ((l32.getD ((((l32.length : Int) - (1 : Int))).toNat) (0 : Int)) - g.1))) = false → gcall (α := Bool) (decide ((g.2.2.2.getD (v8).toNat ((0 : Int), ([] : LI))).1 = ((l32.getD ((((l32.length : Int) - (1 : Int))).toNat) (0 : Int)) - g.1))) (VC47 (0 : Int) sym) false (fun (ret19v : Bool) => VC29_k8 g K atv l32 out X1 v8 X3 ((decide ((g.2.2.2.getD (v8).toNat ((0 : Int), ([] : LI))).1 = ((l32.getD ((((l32.length : Int) - (1 : Int))).toNat) (0 : Int)) - g.1))) && ret19v))))))) ∧ ((decide (v8 < (g.2.2.2.length : Int))) = false → VC29_k7 g K atv l32 out X1))
def VC29_k4 (g : TG) (K : LI × Int → Prop) (ret23v : Int × Int × Int × LR × Int × LI × LI) (atv : Int) (l32 : LI) (out : LI) (X1 : Int × LI × LI → Prop) (sym : Int) : Prop :=
  (((decide ((l32.getD ((((l32.length : Int) - (1 : Int))).toNat) (0 : Int)) < g.1)) = true → (((!decide ((l32.getD ((((l32.length : Int) - (1 : Int))).toNat) (0 : Int)) = sym)) = true → K (([] : LI), (5 : Int))) ∧ ((!decide ((l32.getD ((((l32.length : Int) - (1 : Int))).toNat) (0 : Int)) = sym)) = false → (InR (atv + (1 : Int)) ∧ VC29_k3 X1 (atv + (1 : Int)) (l32.take ((((l32.length : Int) - (1 : Int))).toNat)) out)))) ∧ ((decide ((l32.getD ((((l32.length : Int) - (1 : Int))).toNat) (0 : Int)) < g.1)) = false → Loop (σ := Int) (fun s X => VC29_l3 g K ret23v atv l32 out X1 sym s X) (0 : Int)))
def VC29_l1 (g : TG) (w : LI) (K : LI × Int → Prop) (ret23v : Int × Int × Int × LR × Int × LI × LI) (atv : Int) (l32 : LI) (out : LI) (X1 : Int × LI × LI → Prop) : Prop :=
  (((decide ((0 : Int) < (l32.length : Int))) = true → (InR ((l32.length : Int) - (1 : Int)) ∧ inIdx ((l32.length : Int) - (1 : Int)) l32.length ∧ (InR ((l32.length : Int) - (1 : Int)) ∧ (0 ≤ ((l32.length : Int) - (1 : Int)) ∧ ((l32.length : Int) - (1 : Int)) ≤ (l32.length : Int)) ∧ (((decide (atv < (w.length : Int))) = true → (inIdx atv w.length ∧ VC29_k4 g K ret23v atv l32 out X1 (w.getD (atv).toNat (0 : Int)))) ∧ ((decide (atv < (w.length : Int))) = false → VC29_k4 g K ret23v atv l32 out X1 g.1))))) ∧ ((decide ((0 : Int) < (l32.length : Int))) = false → VC29_k2 w K atv out))
def VC29_k1 (g : TG) (w : LI) (K : LI × Int → Prop) (ret23v : Int × Int × Int × LR × Int × LI × LI) (v2 : Bool) : Prop :=
  (((!v2) = true → K (([] : LI), (3 : Int))) ∧ ((!v2) = false → (InR (g.1 + g.2.2.1) ∧ Loop (σ := Int × LI × LI) (fun s X => VC29_l1 g w K ret23v s.1 s.2.1 s.2.2 X) ((0 : Int), [(g.1 + g.2.2.1)], ([] : List Int)))))
def VC29_k12 (g : TG) (w : LI) (K : LI × Int → Prop) (ret23v : Int × Int × Int × LR × Int × LI × LI) : Prop :=
  VC29_k1 g w K ret23v true
def VC29_k14 (g : TG) (w : LI) (K : LI × Int → Prop) (ret23v : Int × Int × Int × LR × Int × LI × LI) (v19 : Int) (seen : LI) (X5 : Int × LI → Prop) (out : Int) : Prop :=
  (inIdx ((ret23v.2.2.2.1.getD (v19).toNat ((0 : Int), ([] : LI))).1) seen.length ∧ (((!decide ((bAnd .u32 (seen.getD (((ret23v.2.2.2.1.getD (v19).toNat ((0 : Int), ([] : LI))).1).toNat) (0 : Int)) out) = (0 : Int))) = true → VC29_k1 g w K ret23v false) ∧ ((!decide ((bAnd .u32 (seen.getD (((ret23v.2.2.2.1.getD (v19).toNat ((0 : Int), ([] : LI))).1).toNat) (0 : Int)) out) = (0 : Int))) = false → (inIdx ((ret23v.2.2.2.1.getD (v19).toNat ((0 : Int), ([] : LI))).1) seen.length ∧ inIdx ((ret23v.2.2.2.1.getD (v19).toNat ((0 : Int), ([] : LI))).1) seen.length ∧ (InR (v19 + (1 : Int)) ∧ X5 ((v19 + (1 : Int)), (seen.set (((ret23v.2.2.2.1.getD (v19).toNat ((0 : Int), ([] : LI))).1).toNat) (bOr .u32 (seen.getD (((ret23v.2.2.2.1.getD (v19).toNat ((0 : Int), ([] : LI))).1).toNat) (0 : Int)) out))))))))
def VC29_k13 (g : TG) (w : LI) (K : LI × Int → Prop) (ret23v : Int × Int × Int × LR × Int × LI × LI) (v19 : Int) (seen : LI) (X5 : Int × LI → Prop) (v4 : Int) (v5 : Bool) : Prop :=
  ((v5 = true → (inIdx ((ret23v.2.2.2.1.getD (v19).toNat ((0 : Int), ([] : LI))).1) ret23v.2.2.2.2.2.2.length ∧ VC29_k14 g w K ret23v v19 seen X5 (bOr .u32 v4 (ret23v.2.2.2.2.2.2.getD (((ret23v.2.2.2.1.getD (v19).toNat ((0 : Int), ([] : LI))).1).toNat) (0 : Int))))) ∧ (v5 = false → VC29_k14 g w K ret23v v19 seen X5 v4))
def VC29_k15 (g : TG) (w : LI) (K : LI × Int → Prop) (ret23v : Int × Int × Int × LR × Int × LI × LI) (v19 : Int) (seen : LI) (X5 : Int × LI → Prop) (out : Int) : Prop :=
  VC29_k13 g w K ret23v v19 seen X5 out true
def VC29_l6 (g : TG) (w : LI) (K : LI × Int → Prop) (ret23v : Int × Int × Int × LR × Int × LI × LI) (v19 : Int) (seen : LI) (X5 : Int × LI → Prop) (out : Int) (v11 : Int) (X6 : Int × Int → Prop) : Prop :=
  (((decide (v11 < (((ret23v.2.2.2.1.getD (v19).toNat ((0 : Int), ([] : LI))).2).length : Int))) = true → (inIdx v11 ((ret23v.2.2.2.1.getD (v19).toNat ((0 : Int), ([] : LI))).2).length ∧ (((decide ((((ret23v.2.2.2.1.getD (v19).toNat ((0 : Int), ([] : LI))).2).getD (v11).toNat (0 : Int)) < ret23v.1)) = true → (0 ≤ (((ret23v.2.2.2.1.getD (v19).toNat ((0 : Int), ([] : LI))).2).getD (v11).toNat (0 : Int)) ∧ VC29_k13 g w K ret23v v19 seen X5 (bOr .u32 out (bShl .u32 (1 : Int) (((ret23v.2.2.2.1.getD (v19).toNat ((0 : Int), ([] : LI))).2).getD (v11).toNat (0 : Int)))) false)) ∧ ((decide ((((ret23v.2.2.2.1.getD (v19).toNat ((0 : Int), ([] : LI))).2).getD (v11).toNat (0 : Int)) < ret23v.1)) = false → (InR ((((ret23v.2.2.2.1.getD (v19).toNat ((0 : Int), ([] : LI))).2).getD (v11).toNat (0 : Int)) - ret23v.1) ∧ inIdx ((((ret23v.2.2.2.1.getD (v19).toNat ((0 : Int), ([] : LI))).2).getD (v11).toNat (0 : Int)) - ret23v.1) ret23v.2.2.2.2.2.1.length ∧ (InR ((((ret23v.2.2.2.1.getD (v19).toNat ((0 : Int), ([] : LI))).2).getD (v11).toNat (0 : Int)) - ret23v.1) ∧ VC47 ret23v.2.2.2.2.1 ((((ret23v.2.2.2.1.getD (v19).toNat ((0 : Int), ([] : LI))).2).getD (v11).toNat (0 : Int)) - ret23v.1) (fun (ret52v : Bool) => (((!ret52v) = true → VC29_k13 g w K ret23v v19 seen X5 (bOr .u32 out (ret23v.2.2.2.2.2.1.getD ((((((ret23v.2.2.2.1.getD (v19).toNat ((0 : Int), ([] : LI))).2).getD (v11).toNat (0 : Int)) - ret23v.1)).toNat) (0 : Int))) false) ∧ ((!ret52v) = false → (InR (v11 + (1 : Int)) ∧ X6 ((bOr .u32 out (ret23v.2.2.2.2.2.1.getD ((((((ret23v.2.2.2.1.getD (v19).toNat ((0 : Int), ([] : LI))).2).getD (v11).toNat (0 : Int)) - ret23v.1)).toNat) (0 : Int))), (v11 + (1 : Int))))))))))))) ∧ ((decide (v11 < (((ret23v.2.2.2.1.getD (v19).toNat ((0 : Int), ([] : LI))).2).length : Int))) = false → VC29_k15 g w K ret23v v19 seen X5 out))
def VC29_l5 (g : TG) (w : LI) (K : LI × Int → Prop) (ret23v : Int × Int × Int × LR × Int × LI × LI) (v19 : Int) (seen : LI) (X5 : Int × LI → Prop) : Prop :=
  (((decide (v19 < (ret23v.2.2.2.1.length : Int))) = true → (inIdx v19 ret23v.2.2.2.1.length ∧ Loop (σ := Int × Int) (fun s X => VC29_l6 g w K ret23v v19 seen X5 s.1 s.2 X) ((0 : Int), (0 : Int)))) ∧ ((decide (v19 < (ret23v.2.2.2.1.length : Int))) = false → VC29_k12 g w K ret23v))
def VC29 (g : TG) (w : LI) (K : LI × Int → Prop) : Prop :=
  VC44 g w (fun (ret18v : Int) => (((!decide (ret18v = (0 : Int))) = true → K (([] : LI), ret18v)) ∧ ((!decide (ret18v = (0 : Int))) = false → VCo52 g (fun (ret23v : Int × Int × Int × LR × Int × LI × LI) => (room ret23v.2.1 ∧ Loop (σ := Int × LI) (fun s X => VC29_l5 g w K ret23v s.1 s.2 X) ((0 : Int), (List.replicate (ret23v.2.1).toNat (0 : Int))))))))
set_option maxHeartbeats 4000000 in
theorem link29 (g : TG) (w : LI) (K : LI × Int → Prop) (h : VC29 g w K) : ACalls Try.prog 29 [toV1 tG g, toV1 (.sl tI) w] (fun res => ∃ y, res = (fun y => [toV1 (.sl tI) y.1, toV1 tI y.2]) y ∧ K y) := by
 refine acalls_of_aw [(.sl tI), tI] [.t 4, .t 5] Try.func29 rfl rfl rfl ?_
 unfold VC29 at h
 refine srn 3 ⟨94, [e29a38 w, sp 2 2], [e29a24 g]⟩ (by kernel_rfl) rfl ?_
 refine aw_seq ?_
 refine sr ?_
 refine rqT 2 ⟨94, [e29a38 w, sp 2 2, sA 16 [.pI g.1, .pI g.2.1, .pI g.2.2.1, .p (.sl tR) g.2.2.2], s1 17 (.pS w)], [e29a24 g]⟩ (by kernel_rfl) ?_
 refine lcq (d := 18) [.d tG, .d (.sl tI)] (fun ret18v => (⟨94, [e29a38 w, sp 2 2, sI 18 ret18v], [e29a24 g]⟩ : St)) (by kernel_rfl) Try.call44 (fun _ => by kernel_rfl) (link44 g w _ h) (fun ret18v h => ?_)
 refine rqT 1 ⟨94, [e29a38 w, sp 2 2, sI 6 ret18v], [e29a24 g]⟩ (by kernel_rfl) ?_
 refine nsr ?_
 refine rqT 2 ⟨94, [e29a38 w, sp 2 2, sI 6 ret18v, sB 20 (!decide (ret18v = (0 : Int)))], [e29a24 g]⟩ (by kernel_rfl) ?_
 refine nn ?_
 refine aw_cond (b := (!decide (ret18v = (0 : Int)))) (by kernel_rfl) (fun hb => ?_) (fun hb => ?_)
 ·have h := h.1 hb
  refine srn 3 ⟨94, [s1 4 (.nils), sI 5 ret18v], []⟩ (by kernel_rfl) rfl ?_
  refine aw_ret ?_
  refine thenQ_r ?_
  exact retQ_r (ob := Ts 2 True) _ (by kernel_rfl) (tsI 2 trivial) h
 ·have h := h.2 hb
  refine aw_skip ?_
  refine thenQ_n ?_
  refine sr ?_
  refine rqT 1 ⟨94, [e29a38 w, sp 2 2, e29a90 g], [e29a24 g]⟩ (by kernel_rfl) ?_
  refine awl_lcallo (σ := Int × Int × Int × LR × Int × LI × LI) [50000, 50001, 50002] [] [.agg [.pI g.1, .pI g.2.1, .pI g.2.2.1, .p (.sl tR) g.2.2.2]] [] (fun ret23v => .v (.c (.ptr 50000 0))) (fun ret23v => [e29a0 ret23v, e29a1 ret23v, e29a2 ret23v]) _ [] (fun ret23v => (⟨94, [sp 23 50000, e29a38 w, sp 2 2, e29a90 g], [e29a0 ret23v, e29a1 ret23v, e29a2 ret23v, e29a24 g]⟩ : St)) rfl rfl (by kernel_rfl) rfl (by kernel_rfl) Try.call52 (by kernel_rfl) (by kernel_rfl) (by kernel_rfl) (fun _ => by kernel_rfl) (fun _ => by kernel_rfl) (linko52 g _ h) (fun ret23v h => ?_)
  refine lpr (st' := (⟨94, [e29a38 w, sp 2 2, sp 23 50000], [e29a24 g, e29a0 ret23v, e29a1 ret23v, e29a2 ret23v]⟩ : St)) (by kernel_rfl) ?_
  refine rqT 2 ⟨94, [e29a38 w, sp 2 2, sp 7 7], [e29a24 g, hB 7 [.ptr 50000 0], e29a0 ret23v, e29a1 ret23v, e29a2 ret23v]⟩ (by kernel_rfl) ?_
  refine nn ?_
  refine aw_seq ?_
  refine sr ?_
  refine rqT 1 ⟨94, [e29a38 w, sp 2 2, sp 7 7, sp 24 50000], [e29a24 g, hB 7 [.ptr 50000 0], e29a0 ret23v, e29a1 ret23v, e29a2 ret23v]⟩ (by kernel_rfl) ?_
  refine awl_conv [.ren 2 30000, .ren 7 30001] (st' := (⟨94, [e29a38 w, sp 2 30000, e29a51, sp 24 50000], [e29a3 g, e29a7, e29a0 ret23v, e29a1 ret23v, e29a2 ret23v]⟩ : St)) (by kernel_rfl) ?_
  refine awl_inlr [.t 2] [30000, 30001, 50000, 50001, 50002] [.c (.ptr 50000 0)] [] rfl rfl (by kernel_rfl) rfl (by kernel_rfl) Try.call53 (by kernel_rfl) (by kernel_rfl) Try.func53 rfl rfl (by kernel_rfl) ?_
  refine aw_conv [] (st' := (⟨43, [e29a40, e29a66 w, e29a78, e29a79, sp 67 50000], [e29a3 g, e29a7, e29a0 ret23v, e29a1 ret23v, e29a2 ret23v]⟩ : St)) (by kernel_rfl) ?_
  refine withJoinR (σ := Bool) (fun s => (⟨43, [sB 2 s, e29a66 w, e29a78, e29a79], [e29a3 g, e29a7, e29a0 ret23v, e29a1 ret23v, e29a2 ret23v]⟩ : St)) (fun s => VC29_k1 g w K ret23v s) (fun v2 h => ?_) (fun rest11 => ?_)
  ·have h : VC29_k1 g w K ret23v v2 := h
   unfold VC29_k1 at h
   refine inlR_n (ob := True) (.v (.c (.pB v2))) (by kernel_rfl) trivial rfl ?_
   refine lpr (st' := (⟨94, [e29a38 w, sp 2 30000, e29a51, sB 25 v2], [e29a3 g, e29a7, e29a0 ret23v, e29a1 ret23v, e29a2 ret23v]⟩ : St)) (by kernel_rfl) ?_
   refine rqT 1 ⟨94, [e29a38 w, sp 2 30000, e29a51, sB 26 (!v2)], [e29a3 g, e29a7, e29a0 ret23v, e29a1 ret23v, e29a2 ret23v]⟩ (by kernel_rfl) ?_
   refine nn ?_
   refine aw_cond (b := (!v2)) (by kernel_rfl) (fun hb => ?_) (fun hb => ?_)
   ·have h := h.1 hb
    refine srn 2 ⟨94, [s1 4 (.nils), sI 5 (3 : Int)], []⟩ (by kernel_rfl) rfl ?_
    refine aw_ret ?_
    refine thenQ_r ?_
    exact retQ_r (ob := Ts 2 True) _ (by kernel_rfl) (tsI 2 trivial) h
   ·have h := h.2 hb
    refine aw_skip ?_
    refine thenQ_n ?_
    refine sr ?_
    refine rqT 1 ⟨94, [e29a38 w, sp 2 30000, e29a51, s1 8 (.nils)], [e29a3 g, e29a7, e29a0 ret23v, e29a1 ret23v, e29a2 ret23v]⟩ (by kernel_rfl) ?_
    refine nsr ?_
    obtain ⟨o1, h⟩ := h
    refine rq 8 (ob := (Ts 4 (InR (g.1 + g.2.2.1) ∧ Ts 3 True))) (st' := (⟨94, [e29a38 w, sp 2 30000, e29a51, s1 8 (.nils), sp 9 9], [e29a95, hA 32 3 tI [(g.1 + g.2.2.1)], e29a3 g, e29a7, e29a0 ret23v, e29a1 ret23v, e29a2 ret23v]⟩ : St)) (by kernel_rfl) (tsI 4 ⟨o1, tsI 3 trivial⟩) ?_
    refine nsr ?_
    refine rqT 1 ⟨94, [e29a38 w, sp 2 30000, e29a51, s1 8 (.nils), sp 9 9, sI 10 (0 : Int)], [e29a95, hA 32 3 tI [(g.1 + g.2.2.1)], e29a3 g, e29a7, e29a0 ret23v, e29a1 ret23v, e29a2 ret23v]⟩ (by kernel_rfl) ?_
    refine nn ?_
    refine aw_seq ?_
    refine withJoin (σ := Int × LI) (fun s => (⟨94, [e29a38 w, e29a49, sI 10 s.1], [hA 5008 3 tI s.2]⟩ : St)) (fun s => VC29_k2 w K s.1 s.2) (fun s h => ?_) (fun rest1 => ?_)
    ·obtain ⟨atv, out⟩ := s
     have h : VC29_k2 w K atv out := h
     unfold VC29_k2 at h
     refine thenQ_n ?_
     refine aw_seq ?_
     refine srn 4 ⟨94, [e29a49, sB 92 (decide (atv < (w.length : Int)))], [hA 5008 3 tI out]⟩ (by kernel_rfl) rfl ?_
     refine aw_cond (b := (decide (atv < (w.length : Int)))) (by kernel_rfl) (fun hb => ?_) (fun hb => ?_)
     ·have h := h.1 hb
      refine srn 2 ⟨94, [s1 4 (.nils), sI 5 (5 : Int)], []⟩ (by kernel_rfl) rfl ?_
      refine aw_ret ?_
      refine thenQ_r ?_
      exact retQ_r (ob := Ts 2 True) _ (by kernel_rfl) (tsI 2 trivial) h
     ·have h := h.2 hb
      refine aw_skip ?_
      refine thenQ_n ?_
      refine srn 3 ⟨94, [s1 4 (.own 5008), sI 5 (0 : Int)], [hA 5008 3 tI out]⟩ (by kernel_rfl) rfl ?_
      refine aw_conv [.freeze 5008] (st' := (⟨94, [s1 4 (.pS out), sI 5 (0 : Int)], []⟩ : St)) (by kernel_rfl) ?_
      refine aw_ret ?_
      exact retQ_r (ob := Ts 2 True) _ (by kernel_rfl) (tsI 2 trivial) h
    ·refine aw_block ?_
     refine aw_conv [.freezeB 30000 tG, .nilOwn 8 5008 3 tI, .prune [1, 2, 7, 8, 9, 10] e29an3] (st' := (⟨94, [e29a38 w, e29a8 g, e29a51, e29a49, sp 9 9, sI 10 (0 : Int)], [e29a95, hA 32 3 tI [(g.1 + g.2.2.1)], hA 5008 3 tI ([] : List Int), e29a7, e29a0 ret23v, e29a1 ret23v, e29a2 ret23v]⟩ : St)) (by kernel_rfl) ?_
     refine aw_loop (σ := Int × LI × LI) (fun s => (⟨94, [e29a38 w, e29a8 g, e29a51, e29a49, sp 9 9, sI 10 s.1], [e29a95, hA 32 3 tI s.2.1, hA 5008 3 tI s.2.2, e29a7, e29a0 ret23v, e29a1 ret23v, e29a2 ret23v]⟩ : St)) (fun s X => VC29_l1 g w K ret23v s.1 s.2.1 s.2.2 X) (s0 := ((0 : Int), [(g.1 + g.2.2.1)], ([] : List Int))) (fun s X1 h => ?_) h
     obtain ⟨atv, l32, out⟩ := s
     have h : VC29_l1 g w K ret23v atv l32 out X1 := h
     unfold VC29_l1 at h
     refine aw_seq ?_
     refine srn 3 ⟨94, [e29a38 w, e29a8 g, e29a51, e29a49, sp 9 9, sI 10 atv, sB 35 (decide ((0 : Int) < (l32.length : Int)))], [e29a95, e29a54 l32, hA 5008 3 tI out, e29a7, e29a0 ret23v, e29a1 ret23v, e29a2 ret23v]⟩ (by kernel_rfl) rfl ?_
     refine aw_cond (b := (decide ((0 : Int) < (l32.length : Int)))) (by kernel_rfl) (fun hb => ?_) (fun hb => ?_)
     ·have h := h.1 hb
      refine aw_skip ?_
      refine thenQ_n ?_
      refine withJoin (σ := Int × LI × LI) (fun s => (⟨94, [e29a38 w, e29a8 g, e29a51, e29a49, sp 9 9, sI 10 s.1], [e29a95, hA 32 3 tI s.2.1, hA 5008 3 tI s.2.2, e29a7, e29a0 ret23v, e29a1 ret23v, e29a2 ret23v]⟩ : St)) (fun s => VC29_k3 X1 s.1 s.2.1 s.2.2) (fun s h => ?_) (fun rest2 => ?_)
      ·obtain ⟨atv2, l322, out2⟩ := s
       have h : VC29_k3 X1 atv2 l322 out2 := h
       unfold VC29_k3 at h
       exact thenQ_n ⟨(atv2, l322, out2), rfl, h⟩
      ·refine aw_block ?_
       refine sr ?_
       obtain ⟨o1, o2, h⟩ := h
       refine rq 8 (ob := (Ts 3 (InR ((l32.length : Int) - (1 : Int)) ∧ inIdx ((l32.length : Int) - (1 : Int)) l32.length ∧ Ts 3 True))) (st' := (⟨94, [e29a38 w, e29a8 g, e29a51, e29a49, sp 9 9, sI 10 atv, sp 11 11], [e29a95, e29a35 l32, e29a54 l32, hA 5008 3 tI out, e29a7, e29a0 ret23v, e29a1 ret23v, e29a2 ret23v]⟩ : St)) (by kernel_rfl) (tsI 3 (⟨o1, ⟨o2, tsI 3 trivial⟩⟩)) ?_
       refine nsr ?_
       obtain ⟨o1, o2, h⟩ := h
       refine rq 6 (ob := (Ts 3 (InR ((l32.length : Int) - (1 : Int)) ∧ (0 ≤ ((l32.length : Int) - (1 : Int)) ∧ ((l32.length : Int) - (1 : Int)) ≤ (l32.length : Int)) ∧ Ts 1 True))) (st' := (⟨94, [e29a38 w, e29a8 g, e29a51, e29a49, sp 9 9, sI 10 atv, sp 11 11], [e29a31 l32, e29a35 l32, e29a54 l32, hA 5008 3 tI out, e29a7, e29a0 ret23v, e29a1 ret23v, e29a2 ret23v]⟩ : St)) (by kernel_rfl) (tsI 3 (⟨o1, ⟨o2, tsI 1 trivial⟩⟩)) ?_
       refine nsr ?_
       refine rqT 4 ⟨94, [e29a38 w, e29a8 g, e29a51, e29a49, sp 9 9, sI 10 atv, sp 11 11, sp 12 12], [e29a31 l32, e29a35 l32, hB 12 [.pI g.1], e29a54 l32, hA 5008 3 tI out, e29a7, e29a0 ret23v, e29a1 ret23v, e29a2 ret23v]⟩ (by kernel_rfl) ?_
       refine nn ?_
       refine aw_seq ?_
       refine srn 4 ⟨94, [e29a38 w, e29a8 g, e29a51, e29a49, sp 9 9, sI 10 atv, sp 11 11, sp 12 12, sB 52 (decide (atv < (w.length : Int)))], [e29a31 l32, e29a35 l32, hB 12 [.pI g.1], e29a54 l32, hA 5008 3 tI out, e29a7, e29a0 ret23v, e29a1 ret23v, e29a2 ret23v]⟩ (by kernel_rfl) rfl ?_
       refine withJoin (σ := Int) (fun s => (⟨94, [e29a38 w, e29a8 g, e29a51, e29a49, sp 9 9, sI 10 atv, sp 11 11, sp 12 12], [e29a31 l32, e29a35 l32, hB 12 [.pI s], e29a54 l32, hA 5008 3 tI out, e29a7, e29a0 ret23v, e29a1 ret23v, e29a2 ret23v]⟩ : St)) (fun s => VC29_k4 g K ret23v atv l32 out X1 s) (fun sym h => ?_) (fun rest10 => ?_)
       ·have h : VC29_k4 g K ret23v atv l32 out X1 sym := h
        unfold VC29_k4 at h
        refine thenQ_n ?_
        refine aw_seq ?_
        refine srn 4 ⟨94, [e29a38 w, e29a8 g, e29a51, e29a49, sp 9 9, sI 10 atv, sp 11 11, sp 12 12, sB 60 (decide ((l32.getD ((((l32.length : Int) - (1 : Int))).toNat) (0 : Int)) < g.1))], [e29a31 l32, e29a35 l32, hB 12 [.pI sym], e29a54 l32, hA 5008 3 tI out, e29a7, e29a0 ret23v, e29a1 ret23v, e29a2 ret23v]⟩ (by kernel_rfl) rfl ?_
        refine aw_cond (b := (decide ((l32.getD ((((l32.length : Int) - (1 : Int))).toNat) (0 : Int)) < g.1))) (by kernel_rfl) (fun hb => ?_) (fun hb => ?_)
        ·have h := h.1 hb
         refine aw_seq ?_
         refine srn 3 ⟨94, [e29a38 w, e29a8 g, e29a51, e29a49, sp 9 9, sI 10 atv, sB 63 (!decide ((l32.getD ((((l32.length : Int) - (1 : Int))).toNat) (0 : Int)) = sym))], [e29a31 l32, e29a54 l32, hA 5008 3 tI out, e29a7, e29a0 ret23v, e29a1 ret23v, e29a2 ret23v]⟩ (by kernel_rfl) rfl ?_
         refine aw_cond (b := (!decide ((l32.getD ((((l32.length : Int) - (1 : Int))).toNat) (0 : Int)) = sym))) (by kernel_rfl) (fun hb => ?_) (fun hb => ?_)
         ·have h := h.1 hb
          refine srn 2 ⟨94, [s1 4 (.nils), sI 5 (5 : Int)], []⟩ (by kernel_rfl) rfl ?_
          refine aw_ret ?_
          refine thenQ_r ?_
          refine thenQ_r ?_
          refine blockQ_r ?_
          refine thenQ_r ?_
          refine blockQ_r ?_
          refine thenQ_r ?_
          exact retQ_r (ob := Ts 2 True) _ (by kernel_rfl) (tsI 2 trivial) h
         ·have h := h.2 hb
          refine aw_skip ?_
          refine thenQ_n ?_
          refine sr ?_
          obtain ⟨o1, h⟩ := h
          refine rq 3 (ob := (Ts 1 (InR (atv + (1 : Int)) ∧ Ts 1 True))) (st' := (⟨94, [e29a38 w, e29a8 g, e29a51, e29a49, sp 9 9, sI 10 (atv + (1 : Int))], [e29a31 l32, e29a54 l32, hA 5008 3 tI out, e29a7, e29a0 ret23v, e29a1 ret23v, e29a2 ret23v]⟩ : St)) (by kernel_rfl) (tsI 1 ⟨o1, tsI 1 trivial⟩) ?_
          refine nn ?_
          refine aw_conv [.cutB 9 0, .prune [1, 2, 7, 8, 9, 10] e29an3] (st' := (⟨94, [e29a38 w, e29a8 g, e29a51, e29a49, sp 9 9, sI 10 (atv + (1 : Int))], [e29a95, hA 32 3 tI (l32.take ((((l32.length : Int) - (1 : Int))).toNat)), hA 5008 3 tI out, e29a7, e29a0 ret23v, e29a1 ret23v, e29a2 ret23v]⟩ : St)) (by kernel_rfl) ?_
          refine aw_exit ?_
          refine thenQ_x ?_
          refine blockQ_hit ?_
          exact rest2 ((atv + (1 : Int)), (l32.take ((((l32.length : Int) - (1 : Int))).toNat)), out) h
        ·have h := h.2 hb
         refine aw_skip ?_
         refine thenQ_n ?_
         refine sr ?_
         refine rqT 2 ⟨94, [e29a38 w, e29a8 g, e29a51, e29a49, sp 9 9, sI 10 atv, sp 11 11, sp 12 12, e29a71 g], [e29a31 l32, e29a35 l32, hB 12 [.pI sym], e29a54 l32, hA 5008 3 tI out, e29a7, e29a0 ret23v, e29a1 ret23v, e29a2 ret23v]⟩ (by kernel_rfl) ?_
         refine awl_conv [.freezeB 11 tI, .freezeB 12 tI] (st' := (⟨94, [e29a38 w, e29a8 g, e29a51, e29a49, sp 9 9, sI 10 atv, s1 11 (.ad tI (l32.getD ((((l32.length : Int) - (1 : Int))).toNat) (0 : Int))), s1 12 (.ad tI sym), e29a71 g], [e29a31 l32, e29a54 l32, hA 5008 3 tI out, e29a7, e29a0 ret23v, e29a1 ret23v, e29a2 ret23v]⟩ : St)) (by kernel_rfl) ?_
         refine rqT 1 ⟨94, [e29a38 w, e29a8 g, e29a51, e29a49, sp 9 9, sI 10 atv, e29a71 g, e29a42 l32 g sym], [e29a31 l32, e29a54 l32, hA 5008 3 tI out, e29a7, e29a0 ret23v, e29a1 ret23v, e29a2 ret23v]⟩ (by kernel_rfl) ?_
         refine awl_conv [.ren 9 30200, .ren 32 30201, .ren 5008 30202] (st' := (⟨94, [e29a38 w, e29a8 g, e29a51, s1 8 (.own 30202), sp 9 30200, sI 10 atv, e29a71 g, e29a42 l32 g sym], [e29a6 l32, e29a17 l32, hA 30202 3 tI out, e29a7, e29a0 ret23v, e29a1 ret23v, e29a2 ret23v]⟩ : St)) (by kernel_rfl) ?_
         refine awl_inlr [.t 4] [30200, 30201, 30202, 30001, 50000, 50001, 50002] [.c (.p (.sl tR) g.2.2.2), .c (.cl 56 [.ad ⟨tI, (l32.getD ((((l32.length : Int) - (1 : Int))).toNat) (0 : Int))⟩, .ad ⟨tG, g⟩, .pt 30001 0, .ad ⟨tI, sym⟩])] [] rfl rfl (by kernel_rfl) rfl (by kernel_rfl) Try.call55 (by kernel_rfl) (by kernel_rfl) Try.func55 rfl rfl (by kernel_rfl) ?_
         refine aw_conv [] (st' := (⟨19, [e29a41 g, e29a15 l32 g sym, e29a52 w, e29a12 g, e29a58, e29a69, e29a59, sI 29 atv, s1 86 (.p (.sl tR) g.2.2.2), s1 87 (.cl 56 [.ad ⟨tI, (l32.getD ((((l32.length : Int) - (1 : Int))).toNat) (0 : Int))⟩, .ad ⟨tG, g⟩, .pt 30001 0, .ad ⟨tI, sym⟩])], [e29a6 l32, e29a17 l32, hA 30202 3 tI out, e29a7, e29a0 ret23v, e29a1 ret23v, e29a2 ret23v]⟩ : St)) (by kernel_rfl) ?_
         refine withJoinR (σ := Int) (fun s => (⟨19, [sI 4 s, e29a52 w, e29a12 g, e29a58, e29a69, e29a59, sI 29 atv], [e29a7, e29a6 l32, e29a17 l32, hA 30202 3 tI out, e29a0 ret23v, e29a1 ret23v, e29a2 ret23v]⟩ : St)) (fun s => VC29_k5 g K atv l32 out X1 s) (fun v4 h => ?_) (fun rest4 => ?_)
         ·have h : VC29_k5 g K atv l32 out X1 v4 := h
          unfold VC29_k5 at h
          refine inlR_n (ob := True) (.v (.c (.pI v4))) (by kernel_rfl) trivial rfl ?_
          refine lpr (st' := (⟨94, [e29a38 w, e29a8 g, e29a51, s1 8 (.own 30202), sp 9 30200, sI 10 atv, sI 69 v4], [e29a7, e29a6 l32, e29a17 l32, hA 30202 3 tI out, e29a0 ret23v, e29a1 ret23v, e29a2 ret23v]⟩ : St)) (by kernel_rfl) ?_
          refine rqT 1 ⟨94, [e29a38 w, e29a8 g, e29a51, s1 8 (.own 30202), sp 9 30200, sI 10 atv, sI 13 v4], [e29a7, e29a6 l32, e29a17 l32, hA 30202 3 tI out, e29a0 ret23v, e29a1 ret23v, e29a2 ret23v]⟩ (by kernel_rfl) ?_
          refine nn ?_
          refine aw_seq ?_
          refine srn 2 ⟨94, [e29a38 w, e29a8 g, e29a51, s1 8 (.own 30202), sp 9 30200, sI 10 atv, sI 13 v4, sB 71 (decide (v4 < (0 : Int)))], [e29a7, e29a6 l32, e29a17 l32, hA 30202 3 tI out, e29a0 ret23v, e29a1 ret23v, e29a2 ret23v]⟩ (by kernel_rfl) rfl ?_
          refine aw_cond (b := (decide (v4 < (0 : Int)))) (by kernel_rfl) (fun hb => ?_) (fun hb => ?_)
          ·have h := h.1 hb
           refine srn 2 ⟨94, [s1 4 (.nils), sI 5 (5 : Int)], []⟩ (by kernel_rfl) rfl ?_
           refine aw_ret ?_
           refine thenQ_r ?_
           refine blockQ_r ?_
           refine thenQ_r ?_
           refine blockQ_r ?_
           refine thenQ_r ?_
           exact retQ_r (ob := Ts 2 True) _ (by kernel_rfl) (tsI 2 trivial) h
          ·have h := h.2 hb
           refine aw_skip ?_
           refine thenQ_n ?_
           refine sr ?_
           obtain ⟨o1, h⟩ := h
           refine rq 5 (ob := (Ts 3 (roomN (out.length + [v4].length) ∧ Ts 1 True))) (st' := (⟨94, [e29a38 w, e29a8 g, e29a51, s1 8 (.own 75), sp 9 30200, sI 10 atv, sI 13 v4], [hA 75 3 tI (out ++ [v4]), e29a7, e29a6 l32, e29a17 l32, e29a0 ret23v, e29a1 ret23v, e29a2 ret23v]⟩ : St)) (by kernel_rfl) (tsI 3 ⟨o1, tsI 1 trivial⟩) ?_
           refine nsr ?_
           obtain ⟨o1, h⟩ := h
           refine rq 6 (ob := (Ts 3 (inIdx v4 g.2.2.2.length ∧ Ts 2 True))) (st' := (⟨94, [e29a38 w, e29a8 g, e29a51, s1 8 (.own 75), sp 9 30200, sI 10 atv, s1 81 (.pS ((g.2.2.2.getD (v4).toNat ((0 : Int), ([] : LI))).2))], [hA 75 3 tI (out ++ [v4]), e29a7, e29a6 l32, e29a17 l32, e29a0 ret23v, e29a1 ret23v, e29a2 ret23v]⟩ : St)) (by kernel_rfl) (tsI 3 ⟨o1, tsI 2 trivial⟩) ?_
           refine awl_conv [.ren 75 30400] (st' := (⟨94, [e29a38 w, e29a8 g, e29a51, s1 8 (.own 30400), sp 9 30200, sI 10 atv, s1 81 (.pS ((g.2.2.2.getD (v4).toNat ((0 : Int), ([] : LI))).2))], [hA 30400 3 tI (out ++ [v4]), e29a7, e29a6 l32, e29a17 l32, e29a0 ret23v, e29a1 ret23v, e29a2 ret23v]⟩ : St)) (by kernel_rfl) ?_
           refine awl_inlr [.t 2] [30400, 30001, 30200, 30201, 50000, 50001, 50002] [.c (.pS ((g.2.2.2.getD (v4).toNat ((0 : Int), ([] : LI))).2))] [] rfl rfl (by kernel_rfl) rfl (by kernel_rfl) Try.call58 (by kernel_rfl) (by kernel_rfl) Try.func58 rfl rfl (by kernel_rfl) ?_
           refine aw_conv [] (st' := (⟨4, [s1 0 (.pS ((g.2.2.2.getD (v4).toNat ((0 : Int), ([] : LI))).2)), s1 5 (.pS w), e29a43 g, sp 11 30001, s1 12 (.own 30400), sp 13 30200, sI 14 atv, s1 85 (.pS ((g.2.2.2.getD (v4).toNat ((0 : Int), ([] : LI))).2))], [hA 30400 3 tI (out ++ [v4]), e29a7, e29a6 l32, e29a17 l32, e29a0 ret23v, e29a1 ret23v, e29a2 ret23v]⟩ : St)) (by kernel_rfl) ?_
           refine sr ?_
           refine rqT 2 ⟨4, [sp 1 1, s1 5 (.pS w), e29a43 g, sp 11 30001, s1 12 (.own 30400), sp 13 30200, sI 14 atv], [hB 1 [.pS ((g.2.2.2.getD (v4).toNat ((0 : Int), ([] : LI))).2)], e29a7, e29a6 l32, e29a17 l32, hA 30400 3 tI (out ++ [v4]), e29a0 ret23v, e29a1 ret23v, e29a2 ret23v]⟩ (by kernel_rfl) ?_
           refine nsr ?_
           refine awl_conv [.freezeB 1 (.sl tI)] (st' := (⟨4, [e29a25 g v4, s1 5 (.pS w), e29a43 g, sp 11 30001, s1 12 (.own 30400), sp 13 30200, sI 14 atv], [e29a7, e29a6 l32, e29a17 l32, hA 30400 3 tI (out ++ [v4]), e29a0 ret23v, e29a1 ret23v, e29a2 ret23v]⟩ : St)) (by kernel_rfl) ?_
           refine rqT 2 ⟨4, [s1 2 (.fn 87 [(⟨(.sl tI), (g.2.2.2.getD (v4).toNat ((0 : Int), ([] : LI))).2⟩ : Dat)]), s1 5 (.pS w), e29a43 g, sp 11 30001, s1 12 (.own 30400), sp 13 30200, sI 14 atv], [e29a7, e29a6 l32, e29a17 l32, hA 30400 3 tI (out ++ [v4]), e29a0 ret23v, e29a1 ret23v, e29a2 ret23v]⟩ (by kernel_rfl) ?_
           refine nn ?_
           refine aw_ret ?_
           refine inlR_r (ob := True) (.v (.c (.fn 87 [(⟨(.sl tI), (g.2.2.2.getD (v4).toNat ((0 : Int), ([] : LI))).2⟩ : Dat)]))) (by kernel_rfl) trivial rfl ?_
           refine lpr (st' := (⟨94, [e29a38 w, e29a8 g, e29a51, s1 8 (.own 30400), sp 9 30200, sI 10 atv, s1 82 (.fn 87 [(⟨(.sl tI), (g.2.2.2.getD (v4).toNat ((0 : Int), ([] : LI))).2⟩ : Dat)])], [e29a7, e29a6 l32, e29a17 l32, hA 30400 3 tI (out ++ [v4]), e29a0 ret23v, e29a1 ret23v, e29a2 ret23v]⟩ : St)) (by kernel_rfl) ?_
           refine nn ?_
           refine aw_block ?_
           refine aw_conv [.cutB 30200 0] (st' := (⟨94, [e29a38 w, e29a8 g, e29a51, s1 8 (.own 30400), sp 9 30200, sI 10 atv, s1 82 (.fn 87 [(⟨(.sl tI), (g.2.2.2.getD (v4).toNat ((0 : Int), ([] : LI))).2⟩ : Dat)])], [e29a73 l32, e29a7, e29a44, hA 30400 3 tI (out ++ [v4]), e29a0 ret23v, e29a1 ret23v, e29a2 ret23v]⟩ : St)) (by kernel_rfl) ?_
           refine aw_cq ?_
           refine aw_rangeFunc 37000 90000 [9] [37000, 30201, 30001, 30200, 30400, 50000, 50001, 50002] [.c (.ad (.sl tI) ((g.2.2.2.getD (v4).toNat ((0 : Int), ([] : LI))).2))] (by kernel_rfl) Try.call87 Try.func87 rfl rfl (by kernel_rfl) (fun _ => by kernel_rfl) (fun lr1 hps has hbd hnn => ?_)
           have hY1 : ∀ (a83 : Int) (a84 : Int) (c0 : LI) (Kt : LI → Prop) (Kf : (Int × LI) → Prop) (h : VC29_y1 a83 a84 c0 Kt Kf), LYCalls Try.prog 37000 [37000, 30201, 30200] [37000, 30200] [(37000, [], .lp lr1 (0 : Int) (VC29_s1 30200)), hA 30201 3 tI c0, e29a44] [.c (.pI a83), .c (.pI a84)] (fun av hp' => (∃ y : LI, av = .v (.c (.p .bool true)) ∧ hp' = [(37000, [], .lp lr1 (0 : Int) (VC29_s1 30200)), hA 30201 3 tI y, e29a44] ∧ Kt y) ∨ (∃ y : Int × LI, av = .v (.c (.p .bool false)) ∧ hp' = [(37000, [], .lp lr1 y.1 (VC29_s1 30200)), hA 30201 3 tI y.2, e29a44] ∧ Kf y)) := by
            intro a83 a84 c0 Kt Kf h
            refine lyield_of_aw (sl := VC29_s1 30200) (hp1 := [hA 30201 3 tI c0, e29a44]) [37000, 30201, 30200] [37000, 30200] [30201, 30200] [30200] hps has hbd hnn (by kernel_rfl) (by kernel_rfl) (by decide) (by kernel_rfl) (by kernel_rfl) (by kernel_rfl) (by kernel_rfl) ?_
            refine aw_conv [] (st' := (⟨94, [sI 83 a83, sI 84 a84, sp 9 30200, sp 94 30200], [hA 30201 3 tI c0, e29a44]⟩ : St)) (by kernel_rfl) ?_
            unfold VC29_y1 at h
            refine aw_region ?_
            refine rqT 1 ⟨94, [sp 9 30200, sI 15 a84, sp 94 30200], [e29a44, hA 30201 3 tI c0]⟩ (by kernel_rfl) ?_
            refine awl_nil ?_
            refine asgQ_n ?_
            refine aw_block ?_
            refine aw_region ?_
            obtain ⟨o1, h⟩ := h
            refine rq 5 (ob := (Ts 3 (roomN (c0.length + [a84].length) ∧ Ts 1 True))) (st' := (⟨94, [sp 94 30200], [hA 88 3 tI (c0 ++ [a84]), hB 30200 [.own 88]]⟩ : St)) (by kernel_rfl) (tsI 3 ⟨o1, tsI 1 trivial⟩) ?_
            refine awl_conv [.ren 88 30201] (st' := (⟨94, [sp 94 30200], [hA 30201 3 tI (c0 ++ [a84]), e29a44]⟩ : St)) (by kernel_rfl) ?_
            refine awl_nil ?_
            refine blockQ_n ?_
            exact yret_n (c0 ++ [a84]) (by kernel_rfl) (by kernel_rfl) h
           refine aw_conv [] (st' := (⟨19, [e29a91, e29a25 g v4, e29a72, e29a52 w, e29a12 g, e29a58, e29a80, e29a59, sI 29 atv, s1 101 (.fn 87 [(⟨(.sl tI), (g.2.2.2.getD (v4).toNat ((0 : Int), ([] : LI))).2⟩ : Dat)])], [(37000, [], .lp lr1 (0 : Int) (VC29_s1 30200)), e29a73 l32, e29a7, e29a44, hA 30400 3 tI (out ++ [v4]), e29a0 ret23v, e29a1 ret23v, e29a2 ret23v]⟩ : St)) (by kernel_rfl) ?_
           refine sr ?_
           obtain ⟨o1, h⟩ := h
           refine rq 4 (ob := (Ts 2 (InR ((((g.2.2.2.getD (v4).toNat ((0 : Int), ([] : LI))).2).length : Int) - (1 : Int)) ∧ Ts 1 True))) (st' := (⟨19, [e29a91, e29a25 g v4, sI 3 ((((g.2.2.2.getD (v4).toNat ((0 : Int), ([] : LI))).2).length : Int) - (1 : Int)), e29a52 w, e29a12 g, e29a58, e29a80, e29a59, sI 29 atv, e29a72], [e29a7, e29a44, e29a73 l32, hA 30400 3 tI (out ++ [v4]), (37000, [], .lp lr1 (0 : Int) (VC29_s1 30200)), e29a0 ret23v, e29a1 ret23v, e29a2 ret23v]⟩ : St)) (by kernel_rfl) (tsI 2 ⟨o1, tsI 1 trivial⟩) ?_
           refine nn ?_
           refine withJoin (σ := LI) (fun s => (⟨19, [e29a52 w, e29a12 g, e29a58, e29a80, e29a59, sI 29 atv, e29a72], [e29a7, e29a44, hA 30201 3 tI s, hA 30400 3 tI (out ++ [v4]), (37000, [], .lp lr1 (0 : Int) (VC29_s1 30200)), e29a0 ret23v, e29a1 ret23v, e29a2 ret23v]⟩ : St)) (fun s => VC29_k6 atv out X1 v4 s) (fun l30201 h => ?_) (fun rest3 => ?_)
           ·have h : VC29_k6 atv out X1 v4 l30201 := h
            unfold VC29_k6 at h
            refine rfQ_n (0 : Int) (VC29_s1 30200) rfl (by kernel_rfl) (by kernel_rfl) ⟨fun _ => ?_, fun h0 => absurd rfl h0, fun h0 => absurd rfl h0⟩
            refine cq [.ren 30400 50400, .ren 30200 50200, .ren 30201 50201, .ren 50400 5008, .ren 50200 9, .ren 50201 32, .prune [1, 2, 7, 8, 9, 10] e29an3] (s' := (⟨94, [e29a38 w, e29a8 g, e29a51, e29a49, sp 9 9, sI 10 atv], [e29a95, hA 32 3 tI l30201, hA 5008 3 tI (out ++ [v4]), e29a7, e29a0 ret23v, e29a1 ret23v, e29a2 ret23v]⟩ : St)) (by kernel_rfl) ?_
            refine blockQ_n ?_
            refine blockQ_n ?_
            exact rest2 (atv, l30201, (out ++ [v4])) h
           ·refine aw_block ?_
            refine aw_loop (σ := Int × LI) (fun s => (⟨19, [e29a91, e29a25 g v4, sI 3 s.1, e29a52 w, e29a12 g, e29a58, e29a80, e29a59, sI 29 atv, e29a72], [e29a7, e29a44, hA 30201 3 tI s.2, hA 30400 3 tI (out ++ [v4]), (37000, [], .lp lr1 (0 : Int) (VC29_s1 30200)), e29a0 ret23v, e29a1 ret23v, e29a2 ret23v]⟩ : St)) (fun s X => VC29_l2 g atv out X1 v4 s.1 s.2 X) (s0 := (((((g.2.2.2.getD (v4).toNat ((0 : Int), ([] : LI))).2).length : Int) - (1 : Int)), (l32.take ((((l32.length : Int) - (1 : Int))).toNat)))) (fun s X2 h => ?_) h
            obtain ⟨i, l30201⟩ := s
            have h : VC29_l2 g atv out X1 v4 i l30201 X2 := h
            unfold VC29_l2 at h
            refine aw_seq ?_
            refine srn 2 ⟨19, [e29a91, e29a25 g v4, sI 3 i, sB 8 (decide ((0 : Int) ≤ i)), e29a52 w, e29a12 g, e29a58, e29a80, e29a59, sI 29 atv, e29a72], [e29a7, e29a44, hA 30201 3 tI l30201, hA 30400 3 tI (out ++ [v4]), (37000, [], .lp lr1 (0 : Int) (VC29_s1 30200)), e29a0 ret23v, e29a1 ret23v, e29a2 ret23v]⟩ (by kernel_rfl) rfl ?_
            refine aw_cond (b := (decide ((0 : Int) ≤ i))) (by kernel_rfl) (fun hb => ?_) (fun hb => ?_)
            ·have h := h.1 hb
             refine aw_skip ?_
             refine thenQ_n ?_
             refine aw_seq ?_
             refine aw_block ?_
             refine sr ?_
             obtain ⟨o1, h⟩ := h
             refine rq 6 (ob := (Ts 4 (inIdx i ((g.2.2.2.getD (v4).toNat ((0 : Int), ([] : LI))).2).length ∧ Ts 1 True))) (st' := (⟨19, [e29a91, e29a25 g v4, sI 3 i, s1 11 (.yv 37000), sI 12 i, sI 16 (((g.2.2.2.getD (v4).toNat ((0 : Int), ([] : LI))).2).getD (i).toNat (0 : Int)), e29a52 w, e29a12 g, e29a58, e29a80, e29a59, sI 29 atv, e29a72], [e29a7, e29a44, hA 30201 3 tI l30201, hA 30400 3 tI (out ++ [v4]), (37000, [], .lp lr1 (0 : Int) (VC29_s1 30200)), e29a0 ret23v, e29a1 ret23v, e29a2 ret23v]⟩ : St)) (by kernel_rfl) (tsI 4 ⟨o1, tsI 1 trivial⟩) ?_
             refine ycq (d := 17) [37000, 30201, 30200] (fun yt17v => (⟨19, [e29a91, e29a25 g v4, sI 3 i, sB 17 true, e29a52 w, e29a12 g, e29a58, e29a80, e29a59, sI 29 atv, e29a72], [e29a7, e29a44, hA 30201 3 tI yt17v, hA 30400 3 tI (out ++ [v4]), (37000, [], .lp lr1 (0 : Int) (VC29_s1 30200)), e29a0 ret23v, e29a1 ret23v, e29a2 ret23v]⟩ : St)) (fun yf17 => (⟨19, [e29a91, e29a25 g v4, sI 3 i, sB 17 false, e29a52 w, e29a12 g, e29a58, e29a80, e29a59, sI 29 atv, e29a72], [e29a7, e29a44, hA 30201 3 tI yf17.2, hA 30400 3 tI (out ++ [v4]), (37000, [], .lp lr1 yf17.1 (VC29_s1 30200)), e29a0 ret23v, e29a1 ret23v, e29a2 ret23v]⟩ : St)) (by kernel_rfl) (fun _ => by kernel_rfl) (fun _ => by kernel_rfl) (hY1 i (((g.2.2.2.getD (v4).toNat ((0 : Int), ([] : LI))).2).getD (i).toNat (0 : Int)) l30201 _ _ h) (fun yt17v h => ?_) (fun yf17 h => ?_)
             ·refine rqT 1 ⟨19, [e29a91, e29a25 g v4, sI 3 i, sB 18 (!true), e29a52 w, e29a12 g, e29a58, e29a80, e29a59, sI 29 atv, e29a72], [e29a7, e29a44, hA 30201 3 tI yt17v, hA 30400 3 tI (out ++ [v4]), (37000, [], .lp lr1 (0 : Int) (VC29_s1 30200)), e29a0 ret23v, e29a1 ret23v, e29a2 ret23v]⟩ (by kernel_rfl) ?_
              refine nn ?_
              refine aw_cond (b := (!true)) (by kernel_rfl) (fun hb => by cases hb) (fun _ => ?_)
              refine aw_skip ?_
              refine blockQ_n ?_
              refine thenQ_n ?_
              refine aw_region ?_
              obtain ⟨o1, h⟩ := h
              refine rq 3 (ob := (Ts 1 (InR (i - (1 : Int)) ∧ Ts 1 True))) (st' := (⟨19, [e29a91, e29a25 g v4, sI 3 (i - (1 : Int)), e29a52 w, e29a12 g, e29a58, e29a80, e29a59, sI 29 atv, e29a72], [e29a7, e29a44, hA 30201 3 tI yt17v, hA 30400 3 tI (out ++ [v4]), (37000, [], .lp lr1 (0 : Int) (VC29_s1 30200)), e29a0 ret23v, e29a1 ret23v, e29a2 ret23v]⟩ : St)) (by kernel_rfl) (tsI 1 ⟨o1, tsI 1 trivial⟩) ?_
              refine awl_nil ?_
              exact thenQ_n ⟨((i - (1 : Int)), yt17v), rfl, h⟩
             ·refine rqT 1 ⟨19, [e29a91, e29a25 g v4, sI 3 i, sB 18 (!false), e29a52 w, e29a12 g, e29a58, e29a80, e29a59, sI 29 atv, e29a72], [e29a7, e29a44, hA 30201 3 tI yf17.2, hA 30400 3 tI (out ++ [v4]), (37000, [], .lp lr1 yf17.1 (VC29_s1 30200)), e29a0 ret23v, e29a1 ret23v, e29a2 ret23v]⟩ (by kernel_rfl) ?_
              refine nn ?_
              refine aw_cond (b := (!false)) (by kernel_rfl) (fun _ => ?_) (fun hb => by cases hb)
              refine aw_ret ?_
              refine blockQ_r ?_
              refine thenQ_r ?_
              refine thenQ_r ?_
              refine blockQ_r ?_
              exact h.elim
            ·have h := h.2 hb
             refine cpr (st' := (⟨19, [e29a52 w, e29a12 g, e29a58, e29a80, e29a59, sI 29 atv, e29a72], [e29a7, e29a44, hA 30201 3 tI l30201, hA 30400 3 tI (out ++ [v4]), (37000, [], .lp lr1 (0 : Int) (VC29_s1 30200)), e29a0 ret23v, e29a1 ret23v, e29a2 ret23v]⟩ : St)) (by kernel_rfl) ?_
             refine aw_exit ?_
             refine thenQ_x ?_
             refine thenQ_x ?_
             refine blockQ_hit ?_
             exact rest3 l30201 h
         ·refine srn 1 ⟨19, [e29a41 g, e29a15 l32 g sym, e29a52 w, e29a12 g, e29a58, e29a69, e29a59, sI 29 atv], [e29a7, e29a6 l32, e29a17 l32, hA 30202 3 tI out, e29a0 ret23v, e29a1 ret23v, e29a2 ret23v]⟩ (by kernel_rfl) rfl ?_
          refine aw_seq ?_
          refine srn 3 ⟨19, [e29a41 g, e29a15 l32 g sym, e29a88 g, sI 8 (0 : Int), e29a52 w, e29a12 g, e29a58, e29a69, e29a59, sI 29 atv], [e29a7, e29a6 l32, e29a17 l32, hA 30202 3 tI out, e29a0 ret23v, e29a1 ret23v, e29a2 ret23v]⟩ (by kernel_rfl) rfl ?_
          refine withJoin (σ := Unit) (fun s => (⟨19, [e29a52 w, e29a12 g, e29a58, e29a69, e29a59, sI 29 atv], [e29a7, e29a6 l32, e29a17 l32, hA 30202 3 tI out, e29a0 ret23v, e29a1 ret23v, e29a2 ret23v]⟩ : St)) (fun s => VC29_k7 g K atv l32 out X1) (fun s h => ?_) (fun rest5 => ?_)
          ·have h : VC29_k7 g K atv l32 out X1 := h
           unfold VC29_k7 at h
           refine thenQ_n ?_
           refine srn 1 ⟨19, [sI 4 (-1 : Int), e29a52 w, e29a12 g, e29a58, e29a69, e29a59, sI 29 atv], [e29a7, e29a6 l32, e29a17 l32, hA 30202 3 tI out, e29a0 ret23v, e29a1 ret23v, e29a2 ret23v]⟩ (by kernel_rfl) rfl ?_
           refine aw_ret ?_
           exact rest4 (-1 : Int) h
          ·refine aw_block ?_
           refine aw_loop (σ := Int) (fun s => (⟨19, [e29a41 g, e29a15 l32 g sym, e29a88 g, sI 8 s, e29a52 w, e29a12 g, e29a58, e29a69, e29a59, sI 29 atv], [e29a7, e29a6 l32, e29a17 l32, hA 30202 3 tI out, e29a0 ret23v, e29a1 ret23v, e29a2 ret23v]⟩ : St)) (fun s X => VC29_l3 g K ret23v atv l32 out X1 sym s X) (s0 := (0 : Int)) (fun v8 X3 h => ?_) h
           have h : VC29_l3 g K ret23v atv l32 out X1 sym v8 X3 := h
           unfold VC29_l3 at h
           refine srn 1 ⟨19, [e29a41 g, e29a15 l32 g sym, e29a88 g, sI 8 v8, sB 9 (decide (v8 < (g.2.2.2.length : Int))), e29a52 w, e29a12 g, e29a58, e29a69, e29a59, sI 29 atv], [e29a7, e29a6 l32, e29a17 l32, hA 30202 3 tI out, e29a0 ret23v, e29a1 ret23v, e29a2 ret23v]⟩ (by kernel_rfl) rfl ?_
           refine aw_seq ?_
           refine aw_cond (b := (decide (v8 < (g.2.2.2.length : Int)))) (by kernel_rfl) (fun hb => ?_) (fun hb => ?_)
           ·have h := h.1 hb
            refine aw_skip ?_
            refine thenQ_n ?_
            refine aw_seq ?_
            refine aw_block ?_
            refine sr ?_
            refine rqT 2 ⟨19, [e29a41 g, e29a15 l32 g sym, sI 5 v8, e29a88 g, sI 8 v8, e29a52 w, e29a12 g, e29a58, e29a69, e29a59, sI 29 atv], [e29a7, e29a6 l32, e29a17 l32, hA 30202 3 tI out, e29a0 ret23v, e29a1 ret23v, e29a2 ret23v]⟩ (by kernel_rfl) ?_
            refine nsr ?_
            obtain ⟨o1, h⟩ := h
            refine rq 5 (ob := (Ts 3 (inIdx v8 g.2.2.2.length ∧ Ts 1 True))) (st' := (⟨19, [e29a41 g, e29a15 l32 g sym, sI 5 v8, e29a88 g, sI 8 v8, s1 11 (.cl 56 [.ad ⟨tI, (l32.getD ((((l32.length : Int) - (1 : Int))).toNat) (0 : Int))⟩, .ad ⟨tG, g⟩, .pt 30001 0, .ad ⟨tI, sym⟩]), sA 15 [.pI ((g.2.2.2.getD (v8).toNat ((0 : Int), ([] : LI))).1), .pS ((g.2.2.2.getD (v8).toNat ((0 : Int), ([] : LI))).2)], e29a52 w, e29a12 g, e29a58, e29a69, e29a59, sI 29 atv], [e29a7, e29a6 l32, e29a17 l32, hA 30202 3 tI out, e29a0 ret23v, e29a1 ret23v, e29a2 ret23v]⟩ : St)) (by kernel_rfl) (tsI 3 ⟨o1, tsI 1 trivial⟩) ?_
            refine awl_inlr [.t 6] e29an0 [.agg [.pI ((g.2.2.2.getD (v8).toNat ((0 : Int), ([] : LI))).1), .pS ((g.2.2.2.getD (v8).toNat ((0 : Int), ([] : LI))).2)]] [.c (.ad tI (l32.getD ((((l32.length : Int) - (1 : Int))).toNat) (0 : Int))), .c (.ad tG g), .c (.ptr 30001 0), .c (.ad tI sym)] rfl rfl (by kernel_rfl) rfl (by kernel_rfl) Try.call56 (by kernel_rfl) (by kernel_rfl) Try.func56 rfl rfl (by kernel_rfl) ?_
            refine aw_conv [] (st' := (⟨21, [sA 0 [.pI ((g.2.2.2.getD (v8).toNat ((0 : Int), ([] : LI))).1), .pS ((g.2.2.2.getD (v8).toNat ((0 : Int), ([] : LI))).2)], e29a67 l32, e29a8 g, sp 3 30001, s1 4 (.ad tI sym), e29a32 g, e29a10 l32 g sym, sI 26 v8, e29a53 g, sI 29 v8, s1 32 (.cl 56 [.ad ⟨tI, (l32.getD ((((l32.length : Int) - (1 : Int))).toNat) (0 : Int))⟩, .ad ⟨tG, g⟩, .pt 30001 0, .ad ⟨tI, sym⟩]), sA 36 [.pI ((g.2.2.2.getD (v8).toNat ((0 : Int), ([] : LI))).1), .pS ((g.2.2.2.getD (v8).toNat ((0 : Int), ([] : LI))).2)], e29a92 w, e29a19 g, e29a93, e29a81, e29a94, sI 50 atv], [e29a7, e29a6 l32, e29a17 l32, hA 30202 3 tI out, e29a0 ret23v, e29a1 ret23v, e29a2 ret23v]⟩ : St)) (by kernel_rfl) ?_
            refine srn 2 ⟨21, [e29a67 l32, e29a8 g, sp 3 30001, s1 4 (.ad tI sym), sp 5 5, e29a32 g, e29a10 l32 g sym, sI 26 v8, e29a53 g, sI 29 v8, e29a92 w, e29a19 g, e29a93, e29a81, e29a94, sI 50 atv], [hB 5 [.pI ((g.2.2.2.getD (v8).toNat ((0 : Int), ([] : LI))).1), .pS ((g.2.2.2.getD (v8).toNat ((0 : Int), ([] : LI))).2)], e29a7, e29a6 l32, e29a17 l32, hA 30202 3 tI out, e29a0 ret23v, e29a1 ret23v, e29a2 ret23v]⟩ (by kernel_rfl) rfl ?_
            refine aw_seq ?_
            refine withJoin (σ := Bool) (fun s => (⟨21, [sB 6 s, e29a32 g, e29a10 l32 g sym, sI 26 v8, e29a53 g, sI 29 v8, e29a92 w, e29a19 g, e29a93, e29a81, e29a94, sI 50 atv], [e29a7, e29a6 l32, e29a17 l32, hA 30202 3 tI out, e29a0 ret23v, e29a1 ret23v, e29a2 ret23v]⟩ : St)) (fun s => VC29_k8 g K atv l32 out X1 v8 X3 s) (fun v6 h => ?_) (fun rest6 => ?_)
            ·have h : VC29_k8 g K atv l32 out X1 v8 X3 v6 := h
             unfold VC29_k8 at h
             refine thenQ_n ?_
             refine aw_ret ?_
             refine inlR_r (ob := True) (.v (.c (.pB v6))) (by kernel_rfl) trivial rfl ?_
             refine lpr (st' := (⟨19, [e29a41 g, e29a15 l32 g sym, sI 5 v8, e29a88 g, sI 8 v8, sB 16 v6, e29a52 w, e29a12 g, e29a58, e29a69, e29a59, sI 29 atv], [e29a7, e29a6 l32, e29a17 l32, hA 30202 3 tI out, e29a0 ret23v, e29a1 ret23v, e29a2 ret23v]⟩ : St)) (by kernel_rfl) ?_
             refine nn ?_
             refine aw_cond (b := v6) (by kernel_rfl) (fun hb => ?_) (fun hb => ?_)
             ·have h := h.1 hb
              refine srn 2 ⟨19, [sI 4 v8, e29a52 w, e29a12 g, e29a58, e29a69, e29a59, sI 29 atv], [e29a7, e29a6 l32, e29a17 l32, hA 30202 3 tI out, e29a0 ret23v, e29a1 ret23v, e29a2 ret23v]⟩ (by kernel_rfl) rfl ?_
              refine aw_ret ?_
              refine blockQ_r ?_
              refine thenQ_r ?_
              refine thenQ_r ?_
              refine blockQ_r ?_
              refine thenQ_r ?_
              exact rest4 v8 h
             ·have h := h.2 hb
              refine aw_skip ?_
              refine blockQ_n ?_
              refine thenQ_n ?_
              refine aw_region ?_
              obtain ⟨o1, h⟩ := h
              refine rq 2 (ob := (InR (v8 + (1 : Int)) ∧ Ts 1 True)) (st' := (⟨19, [e29a41 g, e29a15 l32 g sym, e29a88 g, sI 8 (v8 + (1 : Int)), e29a52 w, e29a12 g, e29a58, e29a69, e29a59, sI 29 atv], [e29a7, e29a6 l32, e29a17 l32, hA 30202 3 tI out, e29a0 ret23v, e29a1 ret23v, e29a2 ret23v]⟩ : St)) (by kernel_rfl) (⟨o1, tsI 1 trivial⟩) ?_
              refine awl_nil ?_
              exact thenQ_n ⟨(v8 + (1 : Int)), rfl, h⟩
            ·refine aw_conv [.ren 5 30800] (st' := (⟨21, [e29a67 l32, e29a8 g, sp 3 30001, s1 4 (.ad tI sym), sp 5 30800, e29a32 g, e29a10 l32 g sym, sI 26 v8, e29a53 g, sI 29 v8, e29a92 w, e29a19 g, e29a93, e29a81, e29a94, sI 50 atv], [hB 30800 [.pI ((g.2.2.2.getD (v8).toNat ((0 : Int), ([] : LI))).1), .pS ((g.2.2.2.getD (v8).toNat ((0 : Int), ([] : LI))).2)], e29a7, e29a6 l32, e29a17 l32, hA 30202 3 tI out, e29a0 ret23v, e29a1 ret23v, e29a2 ret23v]⟩ : St)) (by kernel_rfl) ?_
             refine awd_begin e29an0 (by kernel_rfl) ?_
             obtain ⟨o1, h⟩ := h
             refine drq (by kernel_rfl) [0, 1, 2, 3, 4, 5, 6, 7, 9, 11] (ob := (Ts 5 (InR ((l32.getD ((((l32.length : Int) - (1 : Int))).toNat) (0 : Int)) - g.1) ∧ Ts 2 (Ti 2 ((decide ((g.2.2.2.getD (v8).toNat ((0 : Int), ([] : LI))).1 = ((l32.getD ((((l32.length : Int) - (1 : Int))).toNat) (0 : Int)) - g.1))) = true → True) True)))) (done' := [11, 9, 7, 6, 5, 4, 3, 2, 1, 0]) (st' := (⟨21, [sp 3 30001, e29a26 g v8 l32, e29a57 g v8, (18, [(14, true)], .v (.c (.pI sym))), e29a32 g, e29a10 l32 g sym, sI 26 v8, e29a53 g, sI 29 v8, e29a92 w, e29a19 g, e29a93, e29a81, e29a94, sI 50 atv], [e29a7, e29a6 l32, e29a17 l32, hA 30202 3 tI out, e29a0 ret23v, e29a1 ret23v, e29a2 ret23v]⟩ : St)) (by kernel_rfl) (tsI 5 ⟨o1, tsI 2 (tiI 2 (fun _ => trivial) trivial)⟩) ?_
             refine awd_one (i := 8) (by kernel_rfl) ?_
             refine dsq (ob := ((decide ((g.2.2.2.getD (v8).toNat ((0 : Int), ([] : LI))).1 = ((l32.getD ((((l32.length : Int) - (1 : Int))).toNat) (0 : Int)) - g.1))) = true → True)) (st' := (⟨21, [e29a26 g v8 l32, (15, [(14, true)], .v (.c (.ptr 50000 0))), e29a57 g v8, (18, [(14, true)], .v (.c (.pI sym))), e29a32 g, e29a10 l32 g sym, sI 26 v8, e29a53 g, sI 29 v8, e29a92 w, e29a19 g, e29a93, e29a81, e29a94, sI 50 atv], [e29a7, e29a6 l32, e29a17 l32, hA 30202 3 tI out, e29a0 ret23v, e29a1 ret23v, e29a2 ret23v]⟩ : St)) rfl (by kernel_rfl) (fun _ => trivial) ?_
             refine awd_one (i := 10) (by kernel_rfl) ?_
             refine adop_inlg [.t 4] [(14, true)] [.c (.ptr 50000 0), .agg [.pI ((g.2.2.2.getD (v8).toNat ((0 : Int), ([] : LI))).1), .pS ((g.2.2.2.getD (v8).toNat ((0 : Int), ([] : LI))).2)]] [] (.v (.c (.pW (0 : Int)))) rfl (by kernel_rfl) rfl (by kernel_rfl) rfl (by kernel_rfl) Try.call57 (by kernel_rfl) (by kernel_rfl) Try.func57 rfl rfl (by kernel_rfl) (fun hb => ?_) (fun hb => ?_)
             ·have h := h.1 hb
              refine aw_conv [] (st' := (⟨26, [e29a40, sA 1 [.pI ((g.2.2.2.getD (v8).toNat ((0 : Int), ([] : LI))).1), .pS ((g.2.2.2.getD (v8).toNat ((0 : Int), ([] : LI))).2)], e29a18 g v8 l32, sp 41 50000, sA 42 [.pI ((g.2.2.2.getD (v8).toNat ((0 : Int), ([] : LI))).1), .pS ((g.2.2.2.getD (v8).toNat ((0 : Int), ([] : LI))).2)], sI 44 sym, e29a36 g, e29a14 l32 g sym, sI 52 v8, e29a55 g, sI 55 v8, s1 67 (.pS w), e29a21 g, e29a96, e29a86, e29a97, sI 76 atv], [e29a7, e29a6 l32, e29a17 l32, hA 30202 3 tI out, e29a0 ret23v, e29a1 ret23v, e29a2 ret23v]⟩ : St)) (by kernel_rfl) ?_
              refine sr ?_
              refine rqT 2 ⟨26, [e29a40, sp 3 3, e29a18 g v8 l32, sI 44 sym, e29a36 g, e29a14 l32 g sym, sI 52 v8, e29a55 g, sI 55 v8, s1 67 (.pS w), e29a21 g, e29a96, e29a86, e29a97, sI 76 atv], [e29a70 g v8, e29a7, e29a6 l32, e29a17 l32, hA 30202 3 tI out, e29a0 ret23v, e29a1 ret23v, e29a2 ret23v]⟩ (by kernel_rfl) ?_
              refine nsr ?_
              refine rqT 3 ⟨26, [e29a40, sp 3 3, sp 8 50000, s1 10 (.pS ((g.2.2.2.getD (v8).toNat ((0 : Int), ([] : LI))).2)), e29a18 g v8 l32, sI 44 sym, e29a36 g, e29a14 l32 g sym, sI 52 v8, e29a55 g, sI 55 v8, s1 67 (.pS w), e29a21 g, e29a96, e29a86, e29a97, sI 76 atv], [e29a70 g v8, e29a7, e29a6 l32, e29a17 l32, hA 30202 3 tI out, e29a0 ret23v, e29a1 ret23v, e29a2 ret23v]⟩ (by kernel_rfl) ?_
              refine awl_conv [.ren 3 30900] (st' := (⟨26, [e29a40, sp 3 30900, sp 8 50000, s1 10 (.pS ((g.2.2.2.getD (v8).toNat ((0 : Int), ([] : LI))).2)), e29a18 g v8 l32, sI 44 sym, e29a36 g, e29a14 l32 g sym, sI 52 v8, e29a55 g, sI 55 v8, s1 67 (.pS w), e29a21 g, e29a96, e29a86, e29a97, sI 76 atv], [e29a11 g v8, e29a7, e29a6 l32, e29a17 l32, hA 30202 3 tI out, e29a0 ret23v, e29a1 ret23v, e29a2 ret23v]⟩ : St)) (by kernel_rfl) ?_
              refine awl_inlr [.t 4, .t 5] [30900, 30001, 30200, 30201, 30202, 50000, 50001, 50002] [.c (.ptr 50000 0), .c (.pS ((g.2.2.2.getD (v8).toNat ((0 : Int), ([] : LI))).2))] [] rfl rfl (by kernel_rfl) rfl (by kernel_rfl) Try.call82 (by kernel_rfl) (by kernel_rfl) Try.func82 rfl rfl (by kernel_rfl) ?_
              refine aw_conv [] (st' := (⟨57, [e29a40, e29a89 g v8, e29a46, e29a82, sp 65 50000, s1 67 (.pS ((g.2.2.2.getD (v8).toNat ((0 : Int), ([] : LI))).2)), e29a13 g v8 l32, sI 101 sym, e29a22 g, e29a5 l32 g sym, sI 109 v8, e29a39 g, sI 112 v8, e29a64 w, e29a16 g, e29a74, e29a48, e29a75, sI 133 atv], [e29a11 g v8, e29a7, e29a6 l32, e29a17 l32, hA 30202 3 tI out, e29a0 ret23v, e29a1 ret23v, e29a2 ret23v]⟩ : St)) (by kernel_rfl) ?_
              refine withJoinR (σ := Int × Bool) (fun s => (⟨57, [s1 4 (.pW s.1), sB 5 s.2, e29a46, e29a82, e29a13 g v8 l32, sI 101 sym, e29a22 g, e29a5 l32 g sym, sI 109 v8, e29a39 g, sI 112 v8, e29a64 w, e29a16 g, e29a74, e29a48, e29a75, sI 133 atv], [e29a7, e29a6 l32, e29a17 l32, hA 30202 3 tI out, e29a11 g v8, e29a0 ret23v, e29a1 ret23v, e29a2 ret23v]⟩ : St)) (fun s => VC29_k9 g K ret23v atv l32 out X1 sym v8 X3 s.1 s.2) (fun s h => ?_) (fun rest8 => ?_)
              ·obtain ⟨v4, v5⟩ := s
               have h : VC29_k9 g K ret23v atv l32 out X1 sym v8 X3 v4 v5 := h
               unfold VC29_k9 at h
               refine inlR_n (ob := (True ∧ True ∧ True)) (.tup [.c (.pW v4), .c (.pB v5)]) (by kernel_rfl) ⟨trivial, trivial, trivial⟩ rfl ?_
               refine lpr (st' := (⟨26, [e29a40, sp 3 30900, (11, [], .tup [.c (.pW v4), .c (.pB v5)]), e29a18 g v8 l32, sI 44 sym, e29a36 g, e29a14 l32 g sym, sI 52 v8, e29a55 g, sI 55 v8, s1 67 (.pS w), e29a21 g, e29a96, e29a86, e29a97, sI 76 atv], [e29a7, e29a6 l32, e29a17 l32, hA 30202 3 tI out, e29a11 g v8, e29a0 ret23v, e29a1 ret23v, e29a2 ret23v]⟩ : St)) (by kernel_rfl) ?_
               refine rqT 5 ⟨26, [e29a40, sp 3 30900, s1 5 (.pW v4), sB 6 v5, e29a18 g v8 l32, sI 44 sym, e29a36 g, e29a14 l32 g sym, sI 52 v8, e29a55 g, sI 55 v8, s1 67 (.pS w), e29a21 g, e29a96, e29a86, e29a97, sI 76 atv], [e29a7, e29a6 l32, e29a17 l32, hA 30202 3 tI out, e29a11 g v8, e29a0 ret23v, e29a1 ret23v, e29a2 ret23v]⟩ (by kernel_rfl) ?_
               refine nn ?_
               refine aw_seq ?_
               refine srn 1 ⟨26, [e29a40, sp 3 30900, s1 5 (.pW v4), sB 14 v5, e29a18 g v8 l32, sI 44 sym, e29a36 g, e29a14 l32 g sym, sI 52 v8, e29a55 g, sI 55 v8, s1 67 (.pS w), e29a21 g, e29a96, e29a86, e29a97, sI 76 atv], [e29a7, e29a6 l32, e29a17 l32, hA 30202 3 tI out, e29a11 g v8, e29a0 ret23v, e29a1 ret23v, e29a2 ret23v]⟩ (by kernel_rfl) rfl ?_
               refine withJoin (σ := Int) (fun s => (⟨26, [s1 5 (.pW s), e29a18 g v8 l32, sI 44 sym, e29a36 g, e29a14 l32 g sym, sI 52 v8, e29a55 g, sI 55 v8, s1 67 (.pS w), e29a21 g, e29a96, e29a86, e29a97, sI 76 atv], [e29a7, e29a6 l32, e29a17 l32, hA 30202 3 tI out, e29a0 ret23v, e29a1 ret23v, e29a2 ret23v]⟩ : St)) (fun s => VC29_k10 g K atv l32 out X1 sym v8 X3 s) (fun out2 h => ?_) (fun rest7 => ?_)
               ·have h : VC29_k10 g K atv l32 out X1 sym v8 X3 out2 := h
                unfold VC29_k10 at h
                refine thenQ_n ?_
                refine srn 2 ⟨26, [s1 4 (.pW out2), e29a18 g v8 l32, sI 44 sym, e29a36 g, e29a14 l32 g sym, sI 52 v8, e29a55 g, sI 55 v8, s1 67 (.pS w), e29a21 g, e29a96, e29a86, e29a97, sI 76 atv], [e29a7, e29a6 l32, e29a17 l32, hA 30202 3 tI out, e29a0 ret23v, e29a1 ret23v, e29a2 ret23v]⟩ (by kernel_rfl) rfl ?_
                refine aw_ret ?_
                refine inlR_r (ob := True) (.v (.c (.pW out2))) (by kernel_rfl) trivial rfl ?_
                refine dpr (st' := (⟨21, [e29a26 g v8 l32, s1 17 (.pW out2), sI 18 sym, e29a32 g, e29a10 l32 g sym, sI 26 v8, e29a53 g, sI 29 v8, e29a92 w, e29a19 g, e29a93, e29a81, e29a94, sI 50 atv], [e29a7, e29a6 l32, e29a17 l32, hA 30202 3 tI out, e29a0 ret23v, e29a1 ret23v, e29a2 ret23v]⟩ : St)) (by kernel_rfl) ?_
                refine awd_one (i := 12) (by kernel_rfl) ?_
                refine adop_callk (p := [(14, true)]) (l := [toV1 (.int .u32) out2, toV1 tI sym]) (cl := []) false [.d (.int .u32), .d tI] e29an6 e29an0 (fun (ret19v : Bool) => VC29_k8 g K atv l32 out X1 v8 X3 ((decide ((g.2.2.2.getD (v8).toNat ((0 : Int), ([] : LI))).1 = ((l32.getD ((((l32.length : Int) - (1 : Int))).toNat) (0 : Int)) - g.1))) && ret19v)) (fun ret19v => [toV1 .bool ret19v]) (fun ret19v => (⟨21, [e29a26 g v8 l32, (19, [(14, true)], .v (.c (.pB ret19v))), e29a32 g, e29a10 l32 g sym, sI 26 v8, e29a53 g, sI 29 v8, e29a92 w, e29a19 g, e29a93, e29a81, e29a94, sI 50 atv], [e29a7, e29a6 l32, e29a17 l32, hA 30202 3 tI out, e29a0 ret23v, e29a1 ret23v, e29a2 ret23v]⟩ : St)) rfl (by kernel_rfl) rfl (by kernel_rfl) rfl (by kernel_rfl) Try.call47 (by kernel_rfl) (fun ret19v => by kernel_rfl) (fun e => by cases e) (fun hg => link47 out2 sym _ (by have := gcall_T h (show (decide ((g.2.2.2.getD (v8).toNat ((0 : Int), ([] : LI))).1 = ((l32.getD ((((l32.length : Int) - (1 : Int))).toNat) (0 : Int)) - g.1))) = true from hg); exact this)) (fun hg => ⟨false, by have := gcall_F h (show (decide ((g.2.2.2.getD (v8).toNat ((0 : Int), ([] : LI))).1 = ((l32.getD ((((l32.length : Int) - (1 : Int))).toNat) (0 : Int)) - g.1))) = false from hg); exact this⟩) (fun ret19v h => ?_)
                refine drq (by kernel_rfl) [13, 14] (ob := (Ts 2 True)) (done' := e29an7) (st' := (⟨21, [e29a56 g v8 l32 ret19v, e29a32 g, e29a10 l32 g sym, sI 26 v8, e29a53 g, sI 29 v8, e29a92 w, e29a19 g, e29a93, e29a81, e29a94, sI 50 atv], [e29a7, e29a6 l32, e29a17 l32, hA 30202 3 tI out, e29a0 ret23v, e29a1 ret23v, e29a2 ret23v]⟩ : St)) (by kernel_rfl) (tsI 2 trivial) ?_
                refine awd_done (by kernel_rfl) ?_
                exact rest6 ((decide ((g.2.2.2.getD (v8).toNat ((0 : Int), ([] : LI))).1 = ((l32.getD ((((l32.length : Int) - (1 : Int))).toNat) (0 : Int)) - g.1))) && ret19v) h
               ·refine aw_cond (b := v5) (by kernel_rfl) (fun hb => ?_) (fun hb => ?_)
                ·have h := h.1 hb
                 refine awd_begin [] (by kernel_rfl) ?_
                 obtain ⟨o1, h⟩ := h
                 refine drq (by kernel_rfl) e29an1 (ob := (Ts 7 (inIdx ((g.2.2.2.getD (v8).toNat ((0 : Int), ([] : LI))).1) ret23v.2.2.2.2.2.2.length ∧ Ts 3 True))) (done' := e29an2) (st' := (⟨26, [s1 5 (.pW (bOr .u32 v4 (ret23v.2.2.2.2.2.2.getD (((g.2.2.2.getD (v8).toNat ((0 : Int), ([] : LI))).1).toNat) (0 : Int)))), e29a18 g v8 l32, sI 44 sym, e29a36 g, e29a14 l32 g sym, sI 52 v8, e29a55 g, sI 55 v8, s1 67 (.pS w), e29a21 g, e29a96, e29a86, e29a97, sI 76 atv], [e29a7, e29a6 l32, e29a17 l32, hA 30202 3 tI out, e29a0 ret23v, e29a1 ret23v, e29a2 ret23v]⟩ : St)) (by kernel_rfl) (tsI 7 ⟨o1, tsI 3 trivial⟩) ?_
                 refine awd_done (by kernel_rfl) ?_
                 exact rest7 (bOr .u32 v4 (ret23v.2.2.2.2.2.2.getD (((g.2.2.2.getD (v8).toNat ((0 : Int), ([] : LI))).1).toNat) (0 : Int))) h
                ·have h := h.2 hb
                 refine cpr (st' := (⟨26, [s1 5 (.pW v4), e29a18 g v8 l32, sI 44 sym, e29a36 g, e29a14 l32 g sym, sI 52 v8, e29a55 g, sI 55 v8, s1 67 (.pS w), e29a21 g, e29a96, e29a86, e29a97, sI 76 atv], [e29a7, e29a6 l32, e29a17 l32, hA 30202 3 tI out, e29a0 ret23v, e29a1 ret23v, e29a2 ret23v]⟩ : St)) (by kernel_rfl) ?_
                 refine aw_skip ?_
                 exact rest7 v4 h
              ·refine sr ?_
               refine rqT 2 ⟨57, [e29a40, e29a89 g v8, e29a46, e29a82, e29a13 g v8 l32, sI 101 sym, e29a22 g, e29a5 l32 g sym, sI 109 v8, e29a39 g, sI 112 v8, e29a64 w, e29a16 g, e29a74, e29a48, e29a75, sI 133 atv], [e29a7, e29a6 l32, e29a17 l32, hA 30202 3 tI out, e29a11 g v8, e29a0 ret23v, e29a1 ret23v, e29a2 ret23v]⟩ (by kernel_rfl) ?_
               refine nsr ?_
               refine rqT 1 ⟨57, [e29a40, e29a89 g v8, s1 6 (.pW (0 : Int)), e29a46, e29a82, e29a13 g v8 l32, sI 101 sym, e29a22 g, e29a5 l32 g sym, sI 109 v8, e29a39 g, sI 112 v8, e29a64 w, e29a16 g, e29a74, e29a48, e29a75, sI 133 atv], [e29a7, e29a6 l32, e29a17 l32, hA 30202 3 tI out, e29a11 g v8, e29a0 ret23v, e29a1 ret23v, e29a2 ret23v]⟩ (by kernel_rfl) ?_
               refine nn ?_
               refine aw_seq ?_
               refine srn 3 ⟨57, [e29a40, s1 6 (.pW (0 : Int)), e29a37 g v8, e29a30 g v8, sI 11 (0 : Int), e29a46, e29a82, e29a13 g v8 l32, sI 101 sym, e29a22 g, e29a5 l32 g sym, sI 109 v8, e29a39 g, sI 112 v8, e29a64 w, e29a16 g, e29a74, e29a48, e29a75, sI 133 atv], [e29a7, e29a6 l32, e29a17 l32, hA 30202 3 tI out, e29a11 g v8, e29a0 ret23v, e29a1 ret23v, e29a2 ret23v]⟩ (by kernel_rfl) rfl ?_
               refine withJoin (σ := Int) (fun s => (⟨57, [s1 6 (.pW s), e29a46, e29a82, e29a13 g v8 l32, sI 101 sym, e29a22 g, e29a5 l32 g sym, sI 109 v8, e29a39 g, sI 112 v8, e29a64 w, e29a16 g, e29a74, e29a48, e29a75, sI 133 atv], [e29a7, e29a6 l32, e29a17 l32, hA 30202 3 tI out, e29a11 g v8, e29a0 ret23v, e29a1 ret23v, e29a2 ret23v]⟩ : St)) (fun s => VC29_k11 g K ret23v atv l32 out X1 sym v8 X3 s) (fun out2 h => ?_) (fun rest9 => ?_)
               ·have h : VC29_k11 g K ret23v atv l32 out X1 sym v8 X3 out2 := h
                unfold VC29_k11 at h
                refine thenQ_n ?_
                refine srn 3 ⟨57, [s1 4 (.pW out2), sB 5 true, e29a46, e29a82, e29a13 g v8 l32, sI 101 sym, e29a22 g, e29a5 l32 g sym, sI 109 v8, e29a39 g, sI 112 v8, e29a64 w, e29a16 g, e29a74, e29a48, e29a75, sI 133 atv], [e29a7, e29a6 l32, e29a17 l32, hA 30202 3 tI out, e29a11 g v8, e29a0 ret23v, e29a1 ret23v, e29a2 ret23v]⟩ (by kernel_rfl) rfl ?_
                refine aw_ret ?_
                exact rest8 (out2, true) h
               ·refine aw_block ?_
                refine aw_loop (σ := Int × Int) (fun s => (⟨57, [e29a40, s1 6 (.pW s.1), e29a37 g v8, e29a30 g v8, sI 11 s.2, e29a46, e29a82, e29a13 g v8 l32, sI 101 sym, e29a22 g, e29a5 l32 g sym, sI 109 v8, e29a39 g, sI 112 v8, e29a64 w, e29a16 g, e29a74, e29a48, e29a75, sI 133 atv], [e29a7, e29a6 l32, e29a17 l32, hA 30202 3 tI out, e29a11 g v8, e29a0 ret23v, e29a1 ret23v, e29a2 ret23v]⟩ : St)) (fun s X => VC29_l4 g K ret23v atv l32 out X1 sym v8 X3 s.1 s.2 X) (s0 := ((0 : Int), (0 : Int))) (fun s X4 h => ?_) h
                obtain ⟨out2, v11⟩ := s
                have h : VC29_l4 g K ret23v atv l32 out X1 sym v8 X3 out2 v11 X4 := h
                unfold VC29_l4 at h
                refine srn 1 ⟨57, [e29a40, s1 6 (.pW out2), e29a37 g v8, e29a30 g v8, sI 11 v11, sB 12 (decide (v11 < (((g.2.2.2.getD (v8).toNat ((0 : Int), ([] : LI))).2).length : Int))), e29a46, e29a82, e29a13 g v8 l32, sI 101 sym, e29a22 g, e29a5 l32 g sym, sI 109 v8, e29a39 g, sI 112 v8, e29a64 w, e29a16 g, e29a74, e29a48, e29a75, sI 133 atv], [e29a7, e29a6 l32, e29a17 l32, hA 30202 3 tI out, e29a11 g v8, e29a0 ret23v, e29a1 ret23v, e29a2 ret23v]⟩ (by kernel_rfl) rfl ?_
                refine aw_seq ?_
                refine aw_cond (b := (decide (v11 < (((g.2.2.2.getD (v8).toNat ((0 : Int), ([] : LI))).2).length : Int)))) (by kernel_rfl) (fun hb => ?_) (fun hb => ?_)
                ·have h := h.1 hb
                 refine aw_skip ?_
                 refine thenQ_n ?_
                 refine aw_seq ?_
                 refine aw_block ?_
                 refine sr ?_
                 obtain ⟨o1, h⟩ := h
                 refine rq 3 (ob := (inIdx v11 ((g.2.2.2.getD (v8).toNat ((0 : Int), ([] : LI))).2).length ∧ Ts 2 True)) (st' := (⟨57, [e29a40, s1 6 (.pW out2), e29a68 g v8 v11, e29a37 g v8, e29a30 g v8, sI 11 v11, e29a46, e29a82, e29a13 g v8 l32, sI 101 sym, e29a22 g, e29a5 l32 g sym, sI 109 v8, e29a39 g, sI 112 v8, e29a64 w, e29a16 g, e29a74, e29a48, e29a75, sI 133 atv], [e29a7, e29a6 l32, e29a17 l32, hA 30202 3 tI out, e29a11 g v8, e29a0 ret23v, e29a1 ret23v, e29a2 ret23v]⟩ : St)) (by kernel_rfl) (⟨o1, tsI 2 trivial⟩) ?_
                 refine nn ?_
                 refine aw_seq ?_
                 refine srn 7 ⟨57, [e29a40, s1 6 (.pW out2), e29a68 g v8 v11, e29a37 g v8, e29a30 g v8, sI 11 v11, sB 21 (decide ((((g.2.2.2.getD (v8).toNat ((0 : Int), ([] : LI))).2).getD (v11).toNat (0 : Int)) < ret23v.1)), e29a46, e29a82, e29a13 g v8 l32, sI 101 sym, e29a22 g, e29a5 l32 g sym, sI 109 v8, e29a39 g, sI 112 v8, e29a64 w, e29a16 g, e29a74, e29a48, e29a75, sI 133 atv], [e29a7, e29a6 l32, e29a17 l32, hA 30202 3 tI out, e29a11 g v8, e29a0 ret23v, e29a1 ret23v, e29a2 ret23v]⟩ (by kernel_rfl) rfl ?_
                 refine aw_cond (b := (decide ((((g.2.2.2.getD (v8).toNat ((0 : Int), ([] : LI))).2).getD (v11).toNat (0 : Int)) < ret23v.1))) (by kernel_rfl) (fun hb => ?_) (fun hb => ?_)
                 ·have h := h.1 hb
                  refine sr ?_
                  obtain ⟨o1, h⟩ := h
                  refine rq 6 (ob := (Ts 2 (0 ≤ (((g.2.2.2.getD (v8).toNat ((0 : Int), ([] : LI))).2).getD (v11).toNat (0 : Int)) ∧ Ts 3 True))) (st' := (⟨57, [s1 4 (.pW (bOr .u32 out2 (bShl .u32 (1 : Int) (((g.2.2.2.getD (v8).toNat ((0 : Int), ([] : LI))).2).getD (v11).toNat (0 : Int))))), sB 5 false, e29a46, e29a82, e29a13 g v8 l32, sI 101 sym, e29a22 g, e29a5 l32 g sym, sI 109 v8, e29a39 g, sI 112 v8, e29a64 w, e29a16 g, e29a74, e29a48, e29a75, sI 133 atv], [e29a7, e29a6 l32, e29a17 l32, hA 30202 3 tI out, e29a11 g v8, e29a0 ret23v, e29a1 ret23v, e29a2 ret23v]⟩ : St)) (by kernel_rfl) (tsI 2 ⟨o1, tsI 3 trivial⟩) ?_
                  refine nn ?_
                  refine aw_ret ?_
                  refine thenQ_r ?_
                  refine blockQ_r ?_
                  refine thenQ_r ?_
                  refine thenQ_r ?_
                  refine blockQ_r ?_
                  refine thenQ_r ?_
                  exact rest8 ((bOr .u32 out2 (bShl .u32 (1 : Int) (((g.2.2.2.getD (v8).toNat ((0 : Int), ([] : LI))).2).getD (v11).toNat (0 : Int)))), false) h
                 ·have h := h.2 hb
                  refine aw_skip ?_
                  refine thenQ_n ?_
                  refine aw_seq ?_
                  refine awd_begin [] (by kernel_rfl) ?_
                  obtain ⟨o1, o2, h⟩ := h
                  refine drq (by kernel_rfl) e29an4 (ob := (Ts 11 (InR ((((g.2.2.2.getD (v8).toNat ((0 : Int), ([] : LI))).2).getD (v11).toNat (0 : Int)) - ret23v.1) ∧ inIdx ((((g.2.2.2.getD (v8).toNat ((0 : Int), ([] : LI))).2).getD (v11).toNat (0 : Int)) - ret23v.1) ret23v.2.2.2.2.2.1.length ∧ Ts 3 True))) (done' := e29an5) (st' := (⟨57, [e29a40, s1 6 (.pW (bOr .u32 out2 (ret23v.2.2.2.2.2.1.getD ((((((g.2.2.2.getD (v8).toNat ((0 : Int), ([] : LI))).2).getD (v11).toNat (0 : Int)) - ret23v.1)).toNat) (0 : Int)))), e29a68 g v8 v11, e29a37 g v8, e29a30 g v8, sI 11 v11, e29a46, e29a82, e29a13 g v8 l32, sI 101 sym, e29a22 g, e29a5 l32 g sym, sI 109 v8, e29a39 g, sI 112 v8, e29a64 w, e29a16 g, e29a74, e29a48, e29a75, sI 133 atv], [e29a7, e29a6 l32, e29a17 l32, hA 30202 3 tI out, e29a11 g v8, e29a0 ret23v, e29a1 ret23v, e29a2 ret23v]⟩ : St)) (by kernel_rfl) (tsI 11 (⟨o1, ⟨o2, tsI 3 trivial⟩⟩)) ?_
                  refine awd_done (by kernel_rfl) ?_
                  refine thenQ_n ?_
                  refine aw_seq ?_
                  refine awd_begin [] (by kernel_rfl) ?_
                  obtain ⟨o1, h⟩ := h
                  refine drq (by kernel_rfl) e29an1 (ob := (Ts 10 (InR ((((g.2.2.2.getD (v8).toNat ((0 : Int), ([] : LI))).2).getD (v11).toNat (0 : Int)) - ret23v.1) ∧ True))) (done' := e29an2) (st' := (⟨57, [e29a40, s1 6 (.pW (bOr .u32 out2 (ret23v.2.2.2.2.2.1.getD ((((((g.2.2.2.getD (v8).toNat ((0 : Int), ([] : LI))).2).getD (v11).toNat (0 : Int)) - ret23v.1)).toNat) (0 : Int)))), e29a37 g v8, e29a30 g v8, sI 11 v11, s1 44 (.pW ret23v.2.2.2.2.1), sI 51 ((((g.2.2.2.getD (v8).toNat ((0 : Int), ([] : LI))).2).getD (v11).toNat (0 : Int)) - ret23v.1), e29a46, e29a82, e29a13 g v8 l32, sI 101 sym, e29a22 g, e29a5 l32 g sym, sI 109 v8, e29a39 g, sI 112 v8, e29a64 w, e29a16 g, e29a74, e29a48, e29a75, sI 133 atv], [e29a7, e29a6 l32, e29a17 l32, hA 30202 3 tI out, e29a11 g v8, e29a0 ret23v, e29a1 ret23v, e29a2 ret23v]⟩ : St)) (by kernel_rfl) (tsI 10 ⟨o1, trivial⟩) ?_
                  refine awd_one (i := 11) (by kernel_rfl) ?_
                  refine dcq (d := 52) [.d (.int .u32), .d tI] (fun ret52v => (⟨57, [e29a40, s1 6 (.pW (bOr .u32 out2 (ret23v.2.2.2.2.2.1.getD ((((((g.2.2.2.getD (v8).toNat ((0 : Int), ([] : LI))).2).getD (v11).toNat (0 : Int)) - ret23v.1)).toNat) (0 : Int)))), e29a37 g v8, e29a30 g v8, sI 11 v11, sB 52 ret52v, e29a46, e29a82, e29a13 g v8 l32, sI 101 sym, e29a22 g, e29a5 l32 g sym, sI 109 v8, e29a39 g, sI 112 v8, e29a64 w, e29a16 g, e29a74, e29a48, e29a75, sI 133 atv], [e29a7, e29a6 l32, e29a17 l32, hA 30202 3 tI out, e29a11 g v8, e29a0 ret23v, e29a1 ret23v, e29a2 ret23v]⟩ : St)) rfl (by kernel_rfl) Try.call47 (fun _ => by kernel_rfl) (link47 ret23v.2.2.2.2.1 ((((g.2.2.2.getD (v8).toNat ((0 : Int), ([] : LI))).2).getD (v11).toNat (0 : Int)) - ret23v.1) _ h) (fun ret52v h => ?_)
                  refine drq (by kernel_rfl) [12] (ob := (Ts 1 True)) (done' := e29an8) (st' := (⟨57, [e29a40, s1 6 (.pW (bOr .u32 out2 (ret23v.2.2.2.2.2.1.getD ((((((g.2.2.2.getD (v8).toNat ((0 : Int), ([] : LI))).2).getD (v11).toNat (0 : Int)) - ret23v.1)).toNat) (0 : Int)))), e29a37 g v8, e29a30 g v8, sI 11 v11, sB 53 (!ret52v), e29a46, e29a82, e29a13 g v8 l32, sI 101 sym, e29a22 g, e29a5 l32 g sym, sI 109 v8, e29a39 g, sI 112 v8, e29a64 w, e29a16 g, e29a74, e29a48, e29a75, sI 133 atv], [e29a7, e29a6 l32, e29a17 l32, hA 30202 3 tI out, e29a11 g v8, e29a0 ret23v, e29a1 ret23v, e29a2 ret23v]⟩ : St)) (by kernel_rfl) (tsI 1 trivial) ?_
                  refine awd_done (by kernel_rfl) ?_
                  refine thenQ_n ?_
                  refine aw_cond (b := (!ret52v)) (by kernel_rfl) (fun hb => ?_) (fun hb => ?_)
                  ·have h := h.1 hb
                   refine srn 3 ⟨57, [s1 4 (.pW (bOr .u32 out2 (ret23v.2.2.2.2.2.1.getD ((((((g.2.2.2.getD (v8).toNat ((0 : Int), ([] : LI))).2).getD (v11).toNat (0 : Int)) - ret23v.1)).toNat) (0 : Int)))), sB 5 false, e29a46, e29a82, e29a13 g v8 l32, sI 101 sym, e29a22 g, e29a5 l32 g sym, sI 109 v8, e29a39 g, sI 112 v8, e29a64 w, e29a16 g, e29a74, e29a48, e29a75, sI 133 atv], [e29a7, e29a6 l32, e29a17 l32, hA 30202 3 tI out, e29a11 g v8, e29a0 ret23v, e29a1 ret23v, e29a2 ret23v]⟩ (by kernel_rfl) rfl ?_
                   refine aw_ret ?_
                   refine blockQ_r ?_
                   refine thenQ_r ?_
                   refine thenQ_r ?_
                   refine blockQ_r ?_
                   refine thenQ_r ?_
                   exact rest8 ((bOr .u32 out2 (ret23v.2.2.2.2.2.1.getD ((((((g.2.2.2.getD (v8).toNat ((0 : Int), ([] : LI))).2).getD (v11).toNat (0 : Int)) - ret23v.1)).toNat) (0 : Int))), false) h
                  ·have h := h.2 hb
                   refine aw_skip ?_
                   refine blockQ_n ?_
                   refine thenQ_n ?_
                   refine aw_region ?_
                   obtain ⟨o1, h⟩ := h
                   refine rq 2 (ob := (InR (v11 + (1 : Int)) ∧ Ts 1 True)) (st' := (⟨57, [e29a40, s1 6 (.pW (bOr .u32 out2 (ret23v.2.2.2.2.2.1.getD ((((((g.2.2.2.getD (v8).toNat ((0 : Int), ([] : LI))).2).getD (v11).toNat (0 : Int)) - ret23v.1)).toNat) (0 : Int)))), e29a37 g v8, e29a30 g v8, sI 11 (v11 + (1 : Int)), e29a46, e29a82, e29a13 g v8 l32, sI 101 sym, e29a22 g, e29a5 l32 g sym, sI 109 v8, e29a39 g, sI 112 v8, e29a64 w, e29a16 g, e29a74, e29a48, e29a75, sI 133 atv], [e29a7, e29a6 l32, e29a17 l32, hA 30202 3 tI out, e29a11 g v8, e29a0 ret23v, e29a1 ret23v, e29a2 ret23v]⟩ : St)) (by kernel_rfl) (⟨o1, tsI 1 trivial⟩) ?_
                   refine awl_nil ?_
                   exact thenQ_n ⟨((bOr .u32 out2 (ret23v.2.2.2.2.2.1.getD ((((((g.2.2.2.getD (v8).toNat ((0 : Int), ([] : LI))).2).getD (v11).toNat (0 : Int)) - ret23v.1)).toNat) (0 : Int))), (v11 + (1 : Int))), rfl, h⟩
                ·have h := h.2 hb
                 refine cpr (st' := (⟨57, [s1 6 (.pW out2), e29a46, e29a82, e29a13 g v8 l32, sI 101 sym, e29a22 g, e29a5 l32 g sym, sI 109 v8, e29a39 g, sI 112 v8, e29a64 w, e29a16 g, e29a74, e29a48, e29a75, sI 133 atv], [e29a7, e29a6 l32, e29a17 l32, hA 30202 3 tI out, e29a11 g v8, e29a0 ret23v, e29a1 ret23v, e29a2 ret23v]⟩ : St)) (by kernel_rfl) ?_
                 refine aw_exit ?_
                 refine thenQ_x ?_
                 refine thenQ_x ?_
                 refine blockQ_hit ?_
                 exact rest9 out2 h
             ·have h := h.2 hb
              refine dpr (st' := (⟨21, [e29a26 g v8 l32, (17, [(14, true)], .v (.c (.pW (0 : Int)))), (18, [(14, true)], .v (.c (.pI sym))), e29a32 g, e29a10 l32 g sym, sI 26 v8, e29a53 g, sI 29 v8, e29a92 w, e29a19 g, e29a93, e29a81, e29a94, sI 50 atv], [e29a7, e29a6 l32, e29a17 l32, hA 30202 3 tI out, e29a0 ret23v, e29a1 ret23v, e29a2 ret23v]⟩ : St)) (by kernel_rfl) ?_
              refine awd_one (i := 12) (by kernel_rfl) ?_
              refine adop_callk (p := [(14, true)]) (l := [toV1 (.int .u32) (0 : Int), toV1 tI sym]) (cl := []) false [.d (.int .u32), .d tI] e29an6 e29an0 (fun (ret19v : Bool) => VC29_k8 g K atv l32 out X1 v8 X3 ((decide ((g.2.2.2.getD (v8).toNat ((0 : Int), ([] : LI))).1 = ((l32.getD ((((l32.length : Int) - (1 : Int))).toNat) (0 : Int)) - g.1))) && ret19v)) (fun ret19v => [toV1 .bool ret19v]) (fun ret19v => (⟨21, [e29a26 g v8 l32, (19, [(14, true)], .v (.c (.pB ret19v))), e29a32 g, e29a10 l32 g sym, sI 26 v8, e29a53 g, sI 29 v8, e29a92 w, e29a19 g, e29a93, e29a81, e29a94, sI 50 atv], [e29a7, e29a6 l32, e29a17 l32, hA 30202 3 tI out, e29a0 ret23v, e29a1 ret23v, e29a2 ret23v]⟩ : St)) rfl (by kernel_rfl) rfl (by kernel_rfl) rfl (by kernel_rfl) Try.call47 (by kernel_rfl) (fun ret19v => by kernel_rfl) (fun e => by cases e) (fun hg => link47 (0 : Int) sym _ (by have := gcall_T h (show (decide ((g.2.2.2.getD (v8).toNat ((0 : Int), ([] : LI))).1 = ((l32.getD ((((l32.length : Int) - (1 : Int))).toNat) (0 : Int)) - g.1))) = true from hg); exact this)) (fun hg => ⟨false, by have := gcall_F h (show (decide ((g.2.2.2.getD (v8).toNat ((0 : Int), ([] : LI))).1 = ((l32.getD ((((l32.length : Int) - (1 : Int))).toNat) (0 : Int)) - g.1))) = false from hg); exact this⟩) (fun ret19v h => ?_)
              refine drq (by kernel_rfl) [13, 14] (ob := (Ts 2 True)) (done' := e29an7) (st' := (⟨21, [e29a56 g v8 l32 ret19v, e29a32 g, e29a10 l32 g sym, sI 26 v8, e29a53 g, sI 29 v8, e29a92 w, e29a19 g, e29a93, e29a81, e29a94, sI 50 atv], [e29a7, e29a6 l32, e29a17 l32, hA 30202 3 tI out, e29a0 ret23v, e29a1 ret23v, e29a2 ret23v]⟩ : St)) (by kernel_rfl) (tsI 2 trivial) ?_
              refine awd_done (by kernel_rfl) ?_
              exact rest6 ((decide ((g.2.2.2.getD (v8).toNat ((0 : Int), ([] : LI))).1 = ((l32.getD ((((l32.length : Int) - (1 : Int))).toNat) (0 : Int)) - g.1))) && ret19v) h
           ·have h := h.2 hb
            refine cpr (st' := (⟨19, [e29a52 w, e29a12 g, e29a58, e29a69, e29a59, sI 29 atv], [e29a7, e29a6 l32, e29a17 l32, hA 30202 3 tI out, e29a0 ret23v, e29a1 ret23v, e29a2 ret23v]⟩ : St)) (by kernel_rfl) ?_
            refine aw_exit ?_
            refine thenQ_x ?_
            refine thenQ_x ?_
            refine blockQ_hit ?_
            exact rest5 () h
       ·refine aw_cond (b := (decide (atv < (w.length : Int)))) (by kernel_rfl) (fun hb => ?_) (fun hb => ?_)
        ·have h := h.1 hb
         refine aw_region ?_
         obtain ⟨o1, h⟩ := h
         refine rq 5 (ob := (Ts 2 (inIdx atv w.length ∧ Ts 2 True))) (st' := (⟨94, [e29a38 w, e29a8 g, e29a51, e29a49, sp 9 9, sI 10 atv, sp 11 11, sp 12 12], [e29a31 l32, e29a35 l32, hB 12 [.pI (w.getD (atv).toNat (0 : Int))], e29a54 l32, hA 5008 3 tI out, e29a7, e29a0 ret23v, e29a1 ret23v, e29a2 ret23v]⟩ : St)) (by kernel_rfl) (tsI 2 ⟨o1, tsI 2 trivial⟩) ?_
         refine awl_nil ?_
         exact rest10 (w.getD (atv).toNat (0 : Int)) h
        ·have h := h.2 hb
         refine cpr (st' := (⟨94, [e29a38 w, e29a8 g, e29a51, e29a49, sp 9 9, sI 10 atv, sp 11 11, sp 12 12], [e29a31 l32, e29a35 l32, hB 12 [.pI g.1], e29a54 l32, hA 5008 3 tI out, e29a7, e29a0 ret23v, e29a1 ret23v, e29a2 ret23v]⟩ : St)) (by kernel_rfl) ?_
         refine aw_skip ?_
         exact rest10 g.1 h
     ·have h := h.2 hb
      refine cpr (st' := (⟨94, [e29a38 w, e29a49, sI 10 atv], [hA 5008 3 tI out]⟩ : St)) (by kernel_rfl) ?_
      refine aw_exit ?_
      refine thenQ_x ?_
      refine thenQ_x ?_
      refine blockQ_hit ?_
      exact rest1 (atv, out) h
  ·refine sr ?_
   refine rqT 1 ⟨43, [e29a40, e29a66 w, e29a78, e29a79], [e29a3 g, e29a7, e29a0 ret23v, e29a1 ret23v, e29a2 ret23v]⟩ (by kernel_rfl) ?_
   refine nsr ?_
   obtain ⟨o1, h⟩ := h
   refine rq 7 (ob := (Ts 5 (room ret23v.2.1 ∧ Ts 1 True))) (st' := (⟨43, [e29a40, s1 3 (.own 12), e29a66 w, e29a78, e29a79], [hA 12 28 (.int .u32) (List.replicate (ret23v.2.1).toNat (0 : Int)), e29a3 g, e29a7, e29a0 ret23v, e29a1 ret23v, e29a2 ret23v]⟩ : St)) (by kernel_rfl) (tsI 5 ⟨o1, tsI 1 trivial⟩) ?_
   refine nn ?_
   refine aw_seq ?_
   refine srn 7 ⟨43, [e29a40, s1 3 (.own 12), e29a28 ret23v, e29a45 ret23v, sI 19 (0 : Int), e29a66 w, e29a78, e29a79], [hA 12 28 (.int .u32) (List.replicate (ret23v.2.1).toNat (0 : Int)), e29a3 g, e29a7, e29a0 ret23v, e29a1 ret23v, e29a2 ret23v]⟩ (by kernel_rfl) rfl ?_
   refine withJoin (σ := Unit) (fun s => (⟨43, [e29a66 w, e29a78, e29a79], [e29a3 g, e29a7, e29a0 ret23v, e29a1 ret23v, e29a2 ret23v]⟩ : St)) (fun s => VC29_k12 g w K ret23v) (fun s h => ?_) (fun rest12 => ?_)
   ·have h : VC29_k12 g w K ret23v := h
    unfold VC29_k12 at h
    refine thenQ_n ?_
    refine srn 1 ⟨43, [sB 2 true, e29a66 w, e29a78, e29a79], [e29a3 g, e29a7, e29a0 ret23v, e29a1 ret23v, e29a2 ret23v]⟩ (by kernel_rfl) rfl ?_
    refine aw_ret ?_
    exact rest11 true h
   ·refine aw_block ?_
    refine aw_loop (σ := Int × LI) (fun s => (⟨43, [e29a40, s1 3 (.own 12), e29a28 ret23v, e29a45 ret23v, sI 19 s.1, e29a66 w, e29a78, e29a79], [hA 12 28 (.int .u32) s.2, e29a3 g, e29a7, e29a0 ret23v, e29a1 ret23v, e29a2 ret23v]⟩ : St)) (fun s X => VC29_l5 g w K ret23v s.1 s.2 X) (s0 := ((0 : Int), (List.replicate (ret23v.2.1).toNat (0 : Int)))) (fun s X5 h => ?_) h
    obtain ⟨v19, seen⟩ := s
    have h : VC29_l5 g w K ret23v v19 seen X5 := h
    unfold VC29_l5 at h
    refine srn 1 ⟨43, [e29a40, s1 3 (.own 12), e29a28 ret23v, e29a45 ret23v, sI 19 v19, sB 20 (decide (v19 < (ret23v.2.2.2.1.length : Int))), e29a66 w, e29a78, e29a79], [hA 12 28 (.int .u32) seen, e29a3 g, e29a7, e29a0 ret23v, e29a1 ret23v, e29a2 ret23v]⟩ (by kernel_rfl) rfl ?_
    refine aw_seq ?_
    refine aw_cond (b := (decide (v19 < (ret23v.2.2.2.1.length : Int)))) (by kernel_rfl) (fun hb => ?_) (fun hb => ?_)
    ·have h := h.1 hb
     refine aw_skip ?_
     refine thenQ_n ?_
     refine aw_seq ?_
     refine aw_block ?_
     refine sr ?_
     obtain ⟨o1, h⟩ := h
     refine rq 4 (ob := (inIdx v19 ret23v.2.2.2.1.length ∧ Ts 3 True)) (st' := (⟨43, [e29a40, s1 3 (.own 12), sp 5 5, e29a28 ret23v, e29a45 ret23v, sI 19 v19, e29a66 w, e29a78, e29a79], [e29a62 ret23v v19, hA 12 28 (.int .u32) seen, e29a3 g, e29a7, e29a0 ret23v, e29a1 ret23v, e29a2 ret23v]⟩ : St)) (by kernel_rfl) (⟨o1, tsI 3 trivial⟩) ?_
     refine nsr ?_
     refine rqT 2 ⟨43, [e29a40, s1 3 (.own 12), sp 5 5, e29a28 ret23v, e29a45 ret23v, sI 19 v19, sp 23 50000, e29a61 ret23v v19, e29a66 w, e29a78, e29a79], [e29a62 ret23v v19, hA 12 28 (.int .u32) seen, e29a3 g, e29a7, e29a0 ret23v, e29a1 ret23v, e29a2 ret23v]⟩ (by kernel_rfl) ?_
     refine awl_conv [.ren 5 31100, .ren 12 31101] (st' := (⟨43, [e29a40, e29a100, sp 5 31100, e29a28 ret23v, e29a45 ret23v, sI 19 v19, sp 23 50000, e29a61 ret23v v19, e29a66 w, e29a78, e29a79], [e29a4 ret23v v19, e29a23 seen, e29a3 g, e29a7, e29a0 ret23v, e29a1 ret23v, e29a2 ret23v]⟩ : St)) (by kernel_rfl) ?_
     refine awl_inlr [.t 4] [31100, 31101, 30000, 30001, 50000, 50001, 50002] [.c (.ptr 50000 0), .agg [.pI ((ret23v.2.2.2.1.getD (v19).toNat ((0 : Int), ([] : LI))).1), .pS ((ret23v.2.2.2.1.getD (v19).toNat ((0 : Int), ([] : LI))).2)]] [] rfl rfl (by kernel_rfl) rfl (by kernel_rfl) Try.call57 (by kernel_rfl) (by kernel_rfl) Try.func57 rfl rfl (by kernel_rfl) ?_
     refine aw_conv [] (st' := (⟨26, [e29a40, sA 1 [.pI ((ret23v.2.2.2.1.getD (v19).toNat ((0 : Int), ([] : LI))).1), .pS ((ret23v.2.2.2.1.getD (v19).toNat ((0 : Int), ([] : LI))).2)], e29a98, e29a87, e29a99, e29a29 ret23v, e29a47 ret23v, sI 45 v19, sp 49 50000, sA 50 [.pI ((ret23v.2.2.2.1.getD (v19).toNat ((0 : Int), ([] : LI))).1), .pS ((ret23v.2.2.2.1.getD (v19).toNat ((0 : Int), ([] : LI))).2)], s1 70 (.pS w), sp 71 30000, sp 76 30001], [e29a4 ret23v v19, e29a23 seen, e29a3 g, e29a7, e29a0 ret23v, e29a1 ret23v, e29a2 ret23v]⟩ : St)) (by kernel_rfl) ?_
     refine sr ?_
     refine rqT 2 ⟨26, [e29a40, sp 3 3, e29a98, e29a87, e29a99, e29a29 ret23v, e29a47 ret23v, sI 45 v19, s1 70 (.pS w), sp 71 30000, sp 76 30001], [e29a63 ret23v v19, e29a3 g, e29a7, e29a4 ret23v v19, e29a23 seen, e29a0 ret23v, e29a1 ret23v, e29a2 ret23v]⟩ (by kernel_rfl) ?_
     refine nsr ?_
     refine rqT 3 ⟨26, [e29a40, sp 3 3, sp 8 50000, s1 10 (.pS ((ret23v.2.2.2.1.getD (v19).toNat ((0 : Int), ([] : LI))).2)), e29a98, e29a87, e29a99, e29a29 ret23v, e29a47 ret23v, sI 45 v19, s1 70 (.pS w), sp 71 30000, sp 76 30001], [e29a63 ret23v v19, e29a3 g, e29a7, e29a4 ret23v v19, e29a23 seen, e29a0 ret23v, e29a1 ret23v, e29a2 ret23v]⟩ (by kernel_rfl) ?_
     refine awl_conv [.ren 3 31300] (st' := (⟨26, [e29a40, sp 3 31300, sp 8 50000, s1 10 (.pS ((ret23v.2.2.2.1.getD (v19).toNat ((0 : Int), ([] : LI))).2)), e29a98, e29a87, e29a99, e29a29 ret23v, e29a47 ret23v, sI 45 v19, s1 70 (.pS w), sp 71 30000, sp 76 30001], [e29a9 ret23v v19, e29a3 g, e29a7, e29a4 ret23v v19, e29a23 seen, e29a0 ret23v, e29a1 ret23v, e29a2 ret23v]⟩ : St)) (by kernel_rfl) ?_
     refine awl_inlr [.t 4, .t 5] [31300, 30000, 30001, 31100, 31101, 50000, 50001, 50002] [.c (.ptr 50000 0), .c (.pS ((ret23v.2.2.2.1.getD (v19).toNat ((0 : Int), ([] : LI))).2))] [] rfl rfl (by kernel_rfl) rfl (by kernel_rfl) Try.call82 (by kernel_rfl) (by kernel_rfl) Try.func82 rfl rfl (by kernel_rfl) ?_
     refine aw_conv [] (st' := (⟨57, [e29a40, s1 1 (.pS ((ret23v.2.2.2.1.getD (v19).toNat ((0 : Int), ([] : LI))).2)), e29a46, e29a83, sp 65 50000, s1 67 (.pS ((ret23v.2.2.2.1.getD (v19).toNat ((0 : Int), ([] : LI))).2)), e29a84, e29a50, e29a85, e29a20 ret23v, e29a34 ret23v, sI 102 v19, e29a65 w, e29a76, e29a77], [e29a9 ret23v v19, e29a3 g, e29a7, e29a4 ret23v v19, e29a23 seen, e29a0 ret23v, e29a1 ret23v, e29a2 ret23v]⟩ : St)) (by kernel_rfl) ?_
     refine withJoinR (σ := Int × Bool) (fun s => (⟨57, [s1 4 (.pW s.1), sB 5 s.2, e29a46, e29a83, e29a84, e29a50, e29a85, e29a20 ret23v, e29a34 ret23v, sI 102 v19, e29a65 w, e29a76, e29a77], [e29a3 g, e29a7, e29a4 ret23v v19, e29a23 seen, e29a9 ret23v v19, e29a0 ret23v, e29a1 ret23v, e29a2 ret23v]⟩ : St)) (fun s => VC29_k13 g w K ret23v v19 seen X5 s.1 s.2) (fun s h => ?_) (fun rest14 => ?_)
     ·obtain ⟨v4, v5⟩ := s
      have h : VC29_k13 g w K ret23v v19 seen X5 v4 v5 := h
      unfold VC29_k13 at h
      refine inlR_n (ob := (True ∧ True ∧ True)) (.tup [.c (.pW v4), .c (.pB v5)]) (by kernel_rfl) ⟨trivial, trivial, trivial⟩ rfl ?_
      refine lpr (st' := (⟨26, [e29a40, sp 3 31300, (11, [], .tup [.c (.pW v4), .c (.pB v5)]), e29a98, e29a87, e29a99, e29a29 ret23v, e29a47 ret23v, sI 45 v19, s1 70 (.pS w), sp 71 30000, sp 76 30001], [e29a3 g, e29a7, e29a4 ret23v v19, e29a23 seen, e29a9 ret23v v19, e29a0 ret23v, e29a1 ret23v, e29a2 ret23v]⟩ : St)) (by kernel_rfl) ?_
      refine rqT 5 ⟨26, [e29a40, sp 3 31300, s1 5 (.pW v4), sB 6 v5, e29a98, e29a87, e29a99, e29a29 ret23v, e29a47 ret23v, sI 45 v19, s1 70 (.pS w), sp 71 30000, sp 76 30001], [e29a3 g, e29a7, e29a4 ret23v v19, e29a23 seen, e29a9 ret23v v19, e29a0 ret23v, e29a1 ret23v, e29a2 ret23v]⟩ (by kernel_rfl) ?_
      refine nn ?_
      refine aw_seq ?_
      refine srn 1 ⟨26, [e29a40, sp 3 31300, s1 5 (.pW v4), sB 14 v5, e29a98, e29a87, e29a99, e29a29 ret23v, e29a47 ret23v, sI 45 v19, s1 70 (.pS w), sp 71 30000, sp 76 30001], [e29a3 g, e29a7, e29a4 ret23v v19, e29a23 seen, e29a9 ret23v v19, e29a0 ret23v, e29a1 ret23v, e29a2 ret23v]⟩ (by kernel_rfl) rfl ?_
      refine withJoin (σ := Int) (fun s => (⟨26, [s1 5 (.pW s), e29a98, e29a87, e29a99, e29a29 ret23v, e29a47 ret23v, sI 45 v19, s1 70 (.pS w), sp 71 30000, sp 76 30001], [e29a3 g, e29a7, e29a4 ret23v v19, e29a23 seen, e29a0 ret23v, e29a1 ret23v, e29a2 ret23v]⟩ : St)) (fun s => VC29_k14 g w K ret23v v19 seen X5 s) (fun out h => ?_) (fun rest13 => ?_)
      ·have h : VC29_k14 g w K ret23v v19 seen X5 out := h
       unfold VC29_k14 at h
       refine thenQ_n ?_
       refine srn 2 ⟨26, [s1 4 (.pW out), e29a98, e29a87, e29a99, e29a29 ret23v, e29a47 ret23v, sI 45 v19, s1 70 (.pS w), sp 71 30000, sp 76 30001], [e29a3 g, e29a7, e29a4 ret23v v19, e29a23 seen, e29a0 ret23v, e29a1 ret23v, e29a2 ret23v]⟩ (by kernel_rfl) rfl ?_
       refine aw_ret ?_
       refine inlR_r (ob := True) (.v (.c (.pW out))) (by kernel_rfl) trivial rfl ?_
       refine lpr (st' := (⟨43, [e29a40, e29a100, sp 5 31100, e29a28 ret23v, e29a45 ret23v, sI 19 v19, s1 25 (.pW out), e29a66 w, e29a78, e29a79], [e29a3 g, e29a7, e29a4 ret23v v19, e29a23 seen, e29a0 ret23v, e29a1 ret23v, e29a2 ret23v]⟩ : St)) (by kernel_rfl) ?_
       refine rqT 1 ⟨43, [e29a40, e29a100, sp 5 31100, s1 6 (.pW out), e29a28 ret23v, e29a45 ret23v, sI 19 v19, e29a66 w, e29a78, e29a79], [e29a3 g, e29a7, e29a4 ret23v v19, e29a23 seen, e29a0 ret23v, e29a1 ret23v, e29a2 ret23v]⟩ (by kernel_rfl) ?_
       refine nn ?_
       refine aw_seq ?_
       refine sr ?_
       obtain ⟨o1, h⟩ := h
       refine rq 8 (ob := (Ts 3 (inIdx ((ret23v.2.2.2.1.getD (v19).toNat ((0 : Int), ([] : LI))).1) seen.length ∧ Ts 4 True))) (st' := (⟨43, [e29a40, e29a100, sp 5 31100, s1 6 (.pW out), e29a28 ret23v, e29a45 ret23v, sI 19 v19, sB 33 (!decide ((bAnd .u32 (seen.getD (((ret23v.2.2.2.1.getD (v19).toNat ((0 : Int), ([] : LI))).1).toNat) (0 : Int)) out) = (0 : Int))), e29a66 w, e29a78, e29a79], [e29a3 g, e29a7, e29a4 ret23v v19, e29a23 seen, e29a0 ret23v, e29a1 ret23v, e29a2 ret23v]⟩ : St)) (by kernel_rfl) (tsI 3 ⟨o1, tsI 4 trivial⟩) ?_
       refine nn ?_
       refine aw_cond (b := (!decide ((bAnd .u32 (seen.getD (((ret23v.2.2.2.1.getD (v19).toNat ((0 : Int), ([] : LI))).1).toNat) (0 : Int)) out) = (0 : Int)))) (by kernel_rfl) (fun hb => ?_) (fun hb => ?_)
       ·have h := h.1 hb
        refine srn 1 ⟨43, [sB 2 false, e29a66 w, e29a78, e29a79], [e29a3 g, e29a7, e29a0 ret23v, e29a1 ret23v, e29a2 ret23v]⟩ (by kernel_rfl) rfl ?_
        refine aw_ret ?_
        refine thenQ_r ?_
        refine blockQ_r ?_
        refine thenQ_r ?_
        refine thenQ_r ?_
        refine blockQ_r ?_
        refine thenQ_r ?_
        exact rest11 false h
       ·have h := h.2 hb
        refine aw_skip ?_
        refine thenQ_n ?_
        refine aw_region ?_
        obtain ⟨o1, o2, h⟩ := h
        refine rq 9 (ob := (Ts 3 (inIdx ((ret23v.2.2.2.1.getD (v19).toNat ((0 : Int), ([] : LI))).1) seen.length ∧ Ts 3 (inIdx ((ret23v.2.2.2.1.getD (v19).toNat ((0 : Int), ([] : LI))).1) seen.length ∧ Ts 1 True)))) (st' := (⟨43, [e29a40, e29a100, e29a28 ret23v, e29a45 ret23v, sI 19 v19, e29a66 w, e29a78, e29a79], [e29a3 g, e29a7, hA 31101 28 (.int .u32) (seen.set (((ret23v.2.2.2.1.getD (v19).toNat ((0 : Int), ([] : LI))).1).toNat) (bOr .u32 (seen.getD (((ret23v.2.2.2.1.getD (v19).toNat ((0 : Int), ([] : LI))).1).toNat) (0 : Int)) out)), e29a0 ret23v, e29a1 ret23v, e29a2 ret23v]⟩ : St)) (by kernel_rfl) (tsI 3 (⟨o1, tsI 3 ⟨o2, tsI 1 trivial⟩⟩)) ?_
        refine awl_nil ?_
        refine blockQ_n ?_
        refine thenQ_n ?_
        refine aw_region ?_
        obtain ⟨o1, h⟩ := h
        refine rq 2 (ob := (InR (v19 + (1 : Int)) ∧ Ts 1 True)) (st' := (⟨43, [e29a40, e29a100, e29a28 ret23v, e29a45 ret23v, sI 19 (v19 + (1 : Int)), e29a66 w, e29a78, e29a79], [e29a3 g, e29a7, hA 31101 28 (.int .u32) (seen.set (((ret23v.2.2.2.1.getD (v19).toNat ((0 : Int), ([] : LI))).1).toNat) (bOr .u32 (seen.getD (((ret23v.2.2.2.1.getD (v19).toNat ((0 : Int), ([] : LI))).1).toNat) (0 : Int)) out)), e29a0 ret23v, e29a1 ret23v, e29a2 ret23v]⟩ : St)) (by kernel_rfl) (⟨o1, tsI 1 trivial⟩) ?_
        refine awl_conv [.ren 31101 51101, .ren 51101 12, .prune [0, 3, 17, 18, 19, 44, 45, 50] [12, 30000, 30001, 50000, 50001, 50002]] (st' := (⟨43, [e29a40, s1 3 (.own 12), e29a28 ret23v, e29a45 ret23v, sI 19 (v19 + (1 : Int)), e29a66 w, e29a78, e29a79], [hA 12 28 (.int .u32) (seen.set (((ret23v.2.2.2.1.getD (v19).toNat ((0 : Int), ([] : LI))).1).toNat) (bOr .u32 (seen.getD (((ret23v.2.2.2.1.getD (v19).toNat ((0 : Int), ([] : LI))).1).toNat) (0 : Int)) out)), e29a3 g, e29a7, e29a0 ret23v, e29a1 ret23v, e29a2 ret23v]⟩ : St)) (by kernel_rfl) ?_
        refine awl_nil ?_
        exact thenQ_n ⟨((v19 + (1 : Int)), (seen.set (((ret23v.2.2.2.1.getD (v19).toNat ((0 : Int), ([] : LI))).1).toNat) (bOr .u32 (seen.getD (((ret23v.2.2.2.1.getD (v19).toNat ((0 : Int), ([] : LI))).1).toNat) (0 : Int)) out))), rfl, h⟩
      ·refine aw_cond (b := v5) (by kernel_rfl) (fun hb => ?_) (fun hb => ?_)
       ·have h := h.1 hb
        refine awd_begin [] (by kernel_rfl) ?_
        obtain ⟨o1, h⟩ := h
        refine drq (by kernel_rfl) e29an1 (ob := (Ts 7 (inIdx ((ret23v.2.2.2.1.getD (v19).toNat ((0 : Int), ([] : LI))).1) ret23v.2.2.2.2.2.2.length ∧ Ts 3 True))) (done' := e29an2) (st' := (⟨26, [s1 5 (.pW (bOr .u32 v4 (ret23v.2.2.2.2.2.2.getD (((ret23v.2.2.2.1.getD (v19).toNat ((0 : Int), ([] : LI))).1).toNat) (0 : Int)))), e29a98, e29a87, e29a99, e29a29 ret23v, e29a47 ret23v, sI 45 v19, s1 70 (.pS w), sp 71 30000, sp 76 30001], [e29a3 g, e29a7, e29a4 ret23v v19, e29a23 seen, e29a0 ret23v, e29a1 ret23v, e29a2 ret23v]⟩ : St)) (by kernel_rfl) (tsI 7 ⟨o1, tsI 3 trivial⟩) ?_
        refine awd_done (by kernel_rfl) ?_
        exact rest13 (bOr .u32 v4 (ret23v.2.2.2.2.2.2.getD (((ret23v.2.2.2.1.getD (v19).toNat ((0 : Int), ([] : LI))).1).toNat) (0 : Int))) h
       ·have h := h.2 hb
        refine cpr (st' := (⟨26, [s1 5 (.pW v4), e29a98, e29a87, e29a99, e29a29 ret23v, e29a47 ret23v, sI 45 v19, s1 70 (.pS w), sp 71 30000, sp 76 30001], [e29a3 g, e29a7, e29a4 ret23v v19, e29a23 seen, e29a0 ret23v, e29a1 ret23v, e29a2 ret23v]⟩ : St)) (by kernel_rfl) ?_
        refine aw_skip ?_
        exact rest13 v4 h
     ·refine sr ?_
      refine rqT 2 ⟨57, [e29a40, s1 1 (.pS ((ret23v.2.2.2.1.getD (v19).toNat ((0 : Int), ([] : LI))).2)), e29a46, e29a83, e29a84, e29a50, e29a85, e29a20 ret23v, e29a34 ret23v, sI 102 v19, e29a65 w, e29a76, e29a77], [e29a3 g, e29a7, e29a4 ret23v v19, e29a23 seen, e29a9 ret23v v19, e29a0 ret23v, e29a1 ret23v, e29a2 ret23v]⟩ (by kernel_rfl) ?_
      refine nsr ?_
      refine rqT 1 ⟨57, [e29a40, s1 1 (.pS ((ret23v.2.2.2.1.getD (v19).toNat ((0 : Int), ([] : LI))).2)), s1 6 (.pW (0 : Int)), e29a46, e29a83, e29a84, e29a50, e29a85, e29a20 ret23v, e29a34 ret23v, sI 102 v19, e29a65 w, e29a76, e29a77], [e29a3 g, e29a7, e29a4 ret23v v19, e29a23 seen, e29a9 ret23v v19, e29a0 ret23v, e29a1 ret23v, e29a2 ret23v]⟩ (by kernel_rfl) ?_
      refine nn ?_
      refine aw_seq ?_
      refine srn 3 ⟨57, [e29a40, s1 6 (.pW (0 : Int)), e29a33 ret23v v19, e29a27 ret23v v19, sI 11 (0 : Int), e29a46, e29a83, e29a84, e29a50, e29a85, e29a20 ret23v, e29a34 ret23v, sI 102 v19, e29a65 w, e29a76, e29a77], [e29a3 g, e29a7, e29a4 ret23v v19, e29a23 seen, e29a9 ret23v v19, e29a0 ret23v, e29a1 ret23v, e29a2 ret23v]⟩ (by kernel_rfl) rfl ?_
      refine withJoin (σ := Int) (fun s => (⟨57, [s1 6 (.pW s), e29a46, e29a83, e29a84, e29a50, e29a85, e29a20 ret23v, e29a34 ret23v, sI 102 v19, e29a65 w, e29a76, e29a77], [e29a3 g, e29a7, e29a4 ret23v v19, e29a23 seen, e29a9 ret23v v19, e29a0 ret23v, e29a1 ret23v, e29a2 ret23v]⟩ : St)) (fun s => VC29_k15 g w K ret23v v19 seen X5 s) (fun out h => ?_) (fun rest15 => ?_)
      ·have h : VC29_k15 g w K ret23v v19 seen X5 out := h
       unfold VC29_k15 at h
       refine thenQ_n ?_
       refine srn 3 ⟨57, [s1 4 (.pW out), sB 5 true, e29a46, e29a83, e29a84, e29a50, e29a85, e29a20 ret23v, e29a34 ret23v, sI 102 v19, e29a65 w, e29a76, e29a77], [e29a3 g, e29a7, e29a4 ret23v v19, e29a23 seen, e29a9 ret23v v19, e29a0 ret23v, e29a1 ret23v, e29a2 ret23v]⟩ (by kernel_rfl) rfl ?_
       refine aw_ret ?_
       exact rest14 (out, true) h
      ·refine aw_block ?_
       refine aw_loop (σ := Int × Int) (fun s => (⟨57, [e29a40, s1 6 (.pW s.1), e29a33 ret23v v19, e29a27 ret23v v19, sI 11 s.2, e29a46, e29a83, e29a84, e29a50, e29a85, e29a20 ret23v, e29a34 ret23v, sI 102 v19, e29a65 w, e29a76, e29a77], [e29a3 g, e29a7, e29a4 ret23v v19, e29a23 seen, e29a9 ret23v v19, e29a0 ret23v, e29a1 ret23v, e29a2 ret23v]⟩ : St)) (fun s X => VC29_l6 g w K ret23v v19 seen X5 s.1 s.2 X) (s0 := ((0 : Int), (0 : Int))) (fun s X6 h => ?_) h
       obtain ⟨out, v11⟩ := s
       have h : VC29_l6 g w K ret23v v19 seen X5 out v11 X6 := h
       unfold VC29_l6 at h
       refine srn 1 ⟨57, [e29a40, s1 6 (.pW out), e29a33 ret23v v19, e29a27 ret23v v19, sI 11 v11, sB 12 (decide (v11 < (((ret23v.2.2.2.1.getD (v19).toNat ((0 : Int), ([] : LI))).2).length : Int))), e29a46, e29a83, e29a84, e29a50, e29a85, e29a20 ret23v, e29a34 ret23v, sI 102 v19, e29a65 w, e29a76, e29a77], [e29a3 g, e29a7, e29a4 ret23v v19, e29a23 seen, e29a9 ret23v v19, e29a0 ret23v, e29a1 ret23v, e29a2 ret23v]⟩ (by kernel_rfl) rfl ?_
       refine aw_seq ?_
       refine aw_cond (b := (decide (v11 < (((ret23v.2.2.2.1.getD (v19).toNat ((0 : Int), ([] : LI))).2).length : Int)))) (by kernel_rfl) (fun hb => ?_) (fun hb => ?_)
       ·have h := h.1 hb
        refine aw_skip ?_
        refine thenQ_n ?_
        refine aw_seq ?_
        refine aw_block ?_
        refine sr ?_
        obtain ⟨o1, h⟩ := h
        refine rq 3 (ob := (inIdx v11 ((ret23v.2.2.2.1.getD (v19).toNat ((0 : Int), ([] : LI))).2).length ∧ Ts 2 True)) (st' := (⟨57, [e29a40, s1 6 (.pW out), e29a60 ret23v v19 v11, e29a33 ret23v v19, e29a27 ret23v v19, sI 11 v11, e29a46, e29a83, e29a84, e29a50, e29a85, e29a20 ret23v, e29a34 ret23v, sI 102 v19, e29a65 w, e29a76, e29a77], [e29a3 g, e29a7, e29a4 ret23v v19, e29a23 seen, e29a9 ret23v v19, e29a0 ret23v, e29a1 ret23v, e29a2 ret23v]⟩ : St)) (by kernel_rfl) (⟨o1, tsI 2 trivial⟩) ?_
        refine nn ?_
        refine aw_seq ?_
        refine srn 7 ⟨57, [e29a40, s1 6 (.pW out), e29a60 ret23v v19 v11, e29a33 ret23v v19, e29a27 ret23v v19, sI 11 v11, sB 21 (decide ((((ret23v.2.2.2.1.getD (v19).toNat ((0 : Int), ([] : LI))).2).getD (v11).toNat (0 : Int)) < ret23v.1)), e29a46, e29a83, e29a84, e29a50, e29a85, e29a20 ret23v, e29a34 ret23v, sI 102 v19, e29a65 w, e29a76, e29a77], [e29a3 g, e29a7, e29a4 ret23v v19, e29a23 seen, e29a9 ret23v v19, e29a0 ret23v, e29a1 ret23v, e29a2 ret23v]⟩ (by kernel_rfl) rfl ?_
        refine aw_cond (b := (decide ((((ret23v.2.2.2.1.getD (v19).toNat ((0 : Int), ([] : LI))).2).getD (v11).toNat (0 : Int)) < ret23v.1))) (by kernel_rfl) (fun hb => ?_) (fun hb => ?_)
        ·have h := h.1 hb
         refine sr ?_
         obtain ⟨o1, h⟩ := h
         refine rq 6 (ob := (Ts 2 (0 ≤ (((ret23v.2.2.2.1.getD (v19).toNat ((0 : Int), ([] : LI))).2).getD (v11).toNat (0 : Int)) ∧ Ts 3 True))) (st' := (⟨57, [s1 4 (.pW (bOr .u32 out (bShl .u32 (1 : Int) (((ret23v.2.2.2.1.getD (v19).toNat ((0 : Int), ([] : LI))).2).getD (v11).toNat (0 : Int))))), sB 5 false, e29a46, e29a83, e29a84, e29a50, e29a85, e29a20 ret23v, e29a34 ret23v, sI 102 v19, e29a65 w, e29a76, e29a77], [e29a3 g, e29a7, e29a4 ret23v v19, e29a23 seen, e29a9 ret23v v19, e29a0 ret23v, e29a1 ret23v, e29a2 ret23v]⟩ : St)) (by kernel_rfl) (tsI 2 ⟨o1, tsI 3 trivial⟩) ?_
         refine nn ?_
         refine aw_ret ?_
         refine thenQ_r ?_
         refine blockQ_r ?_
         refine thenQ_r ?_
         refine thenQ_r ?_
         refine blockQ_r ?_
         refine thenQ_r ?_
         exact rest14 ((bOr .u32 out (bShl .u32 (1 : Int) (((ret23v.2.2.2.1.getD (v19).toNat ((0 : Int), ([] : LI))).2).getD (v11).toNat (0 : Int)))), false) h
        ·have h := h.2 hb
         refine aw_skip ?_
         refine thenQ_n ?_
         refine aw_seq ?_
         refine awd_begin [] (by kernel_rfl) ?_
         obtain ⟨o1, o2, h⟩ := h
         refine drq (by kernel_rfl) e29an4 (ob := (Ts 11 (InR ((((ret23v.2.2.2.1.getD (v19).toNat ((0 : Int), ([] : LI))).2).getD (v11).toNat (0 : Int)) - ret23v.1) ∧ inIdx ((((ret23v.2.2.2.1.getD (v19).toNat ((0 : Int), ([] : LI))).2).getD (v11).toNat (0 : Int)) - ret23v.1) ret23v.2.2.2.2.2.1.length ∧ Ts 3 True))) (done' := e29an5) (st' := (⟨57, [e29a40, s1 6 (.pW (bOr .u32 out (ret23v.2.2.2.2.2.1.getD ((((((ret23v.2.2.2.1.getD (v19).toNat ((0 : Int), ([] : LI))).2).getD (v11).toNat (0 : Int)) - ret23v.1)).toNat) (0 : Int)))), e29a60 ret23v v19 v11, e29a33 ret23v v19, e29a27 ret23v v19, sI 11 v11, e29a46, e29a83, e29a84, e29a50, e29a85, e29a20 ret23v, e29a34 ret23v, sI 102 v19, e29a65 w, e29a76, e29a77], [e29a3 g, e29a7, e29a4 ret23v v19, e29a23 seen, e29a9 ret23v v19, e29a0 ret23v, e29a1 ret23v, e29a2 ret23v]⟩ : St)) (by kernel_rfl) (tsI 11 (⟨o1, ⟨o2, tsI 3 trivial⟩⟩)) ?_
         refine awd_done (by kernel_rfl) ?_
         refine thenQ_n ?_
         refine aw_seq ?_
         refine awd_begin [] (by kernel_rfl) ?_
         obtain ⟨o1, h⟩ := h
         refine drq (by kernel_rfl) e29an1 (ob := (Ts 10 (InR ((((ret23v.2.2.2.1.getD (v19).toNat ((0 : Int), ([] : LI))).2).getD (v11).toNat (0 : Int)) - ret23v.1) ∧ True))) (done' := e29an2) (st' := (⟨57, [e29a40, s1 6 (.pW (bOr .u32 out (ret23v.2.2.2.2.2.1.getD ((((((ret23v.2.2.2.1.getD (v19).toNat ((0 : Int), ([] : LI))).2).getD (v11).toNat (0 : Int)) - ret23v.1)).toNat) (0 : Int)))), e29a33 ret23v v19, e29a27 ret23v v19, sI 11 v11, s1 44 (.pW ret23v.2.2.2.2.1), sI 51 ((((ret23v.2.2.2.1.getD (v19).toNat ((0 : Int), ([] : LI))).2).getD (v11).toNat (0 : Int)) - ret23v.1), e29a46, e29a83, e29a84, e29a50, e29a85, e29a20 ret23v, e29a34 ret23v, sI 102 v19, e29a65 w, e29a76, e29a77], [e29a3 g, e29a7, e29a4 ret23v v19, e29a23 seen, e29a9 ret23v v19, e29a0 ret23v, e29a1 ret23v, e29a2 ret23v]⟩ : St)) (by kernel_rfl) (tsI 10 ⟨o1, trivial⟩) ?_
         refine awd_one (i := 11) (by kernel_rfl) ?_
         refine dcq (d := 52) [.d (.int .u32), .d tI] (fun ret52v => (⟨57, [e29a40, s1 6 (.pW (bOr .u32 out (ret23v.2.2.2.2.2.1.getD ((((((ret23v.2.2.2.1.getD (v19).toNat ((0 : Int), ([] : LI))).2).getD (v11).toNat (0 : Int)) - ret23v.1)).toNat) (0 : Int)))), e29a33 ret23v v19, e29a27 ret23v v19, sI 11 v11, sB 52 ret52v, e29a46, e29a83, e29a84, e29a50, e29a85, e29a20 ret23v, e29a34 ret23v, sI 102 v19, e29a65 w, e29a76, e29a77], [e29a3 g, e29a7, e29a4 ret23v v19, e29a23 seen, e29a9 ret23v v19, e29a0 ret23v, e29a1 ret23v, e29a2 ret23v]⟩ : St)) rfl (by kernel_rfl) Try.call47 (fun _ => by kernel_rfl) (link47 ret23v.2.2.2.2.1 ((((ret23v.2.2.2.1.getD (v19).toNat ((0 : Int), ([] : LI))).2).getD (v11).toNat (0 : Int)) - ret23v.1) _ h) (fun ret52v h => ?_)
         refine drq (by kernel_rfl) [12] (ob := (Ts 1 True)) (done' := e29an8) (st' := (⟨57, [e29a40, s1 6 (.pW (bOr .u32 out (ret23v.2.2.2.2.2.1.getD ((((((ret23v.2.2.2.1.getD (v19).toNat ((0 : Int), ([] : LI))).2).getD (v11).toNat (0 : Int)) - ret23v.1)).toNat) (0 : Int)))), e29a33 ret23v v19, e29a27 ret23v v19, sI 11 v11, sB 53 (!ret52v), e29a46, e29a83, e29a84, e29a50, e29a85, e29a20 ret23v, e29a34 ret23v, sI 102 v19, e29a65 w, e29a76, e29a77], [e29a3 g, e29a7, e29a4 ret23v v19, e29a23 seen, e29a9 ret23v v19, e29a0 ret23v, e29a1 ret23v, e29a2 ret23v]⟩ : St)) (by kernel_rfl) (tsI 1 trivial) ?_
         refine awd_done (by kernel_rfl) ?_
         refine thenQ_n ?_
         refine aw_cond (b := (!ret52v)) (by kernel_rfl) (fun hb => ?_) (fun hb => ?_)
         ·have h := h.1 hb
          refine srn 3 ⟨57, [s1 4 (.pW (bOr .u32 out (ret23v.2.2.2.2.2.1.getD ((((((ret23v.2.2.2.1.getD (v19).toNat ((0 : Int), ([] : LI))).2).getD (v11).toNat (0 : Int)) - ret23v.1)).toNat) (0 : Int)))), sB 5 false, e29a46, e29a83, e29a84, e29a50, e29a85, e29a20 ret23v, e29a34 ret23v, sI 102 v19, e29a65 w, e29a76, e29a77], [e29a3 g, e29a7, e29a4 ret23v v19, e29a23 seen, e29a9 ret23v v19, e29a0 ret23v, e29a1 ret23v, e29a2 ret23v]⟩ (by kernel_rfl) rfl ?_
          refine aw_ret ?_
          refine blockQ_r ?_
          refine thenQ_r ?_
          refine thenQ_r ?_
          refine blockQ_r ?_
          refine thenQ_r ?_
          exact rest14 ((bOr .u32 out (ret23v.2.2.2.2.2.1.getD ((((((ret23v.2.2.2.1.getD (v19).toNat ((0 : Int), ([] : LI))).2).getD (v11).toNat (0 : Int)) - ret23v.1)).toNat) (0 : Int))), false) h
         ·have h := h.2 hb
          refine aw_skip ?_
          refine blockQ_n ?_
          refine thenQ_n ?_
          refine aw_region ?_
          obtain ⟨o1, h⟩ := h
          refine rq 2 (ob := (InR (v11 + (1 : Int)) ∧ Ts 1 True)) (st' := (⟨57, [e29a40, s1 6 (.pW (bOr .u32 out (ret23v.2.2.2.2.2.1.getD ((((((ret23v.2.2.2.1.getD (v19).toNat ((0 : Int), ([] : LI))).2).getD (v11).toNat (0 : Int)) - ret23v.1)).toNat) (0 : Int)))), e29a33 ret23v v19, e29a27 ret23v v19, sI 11 (v11 + (1 : Int)), e29a46, e29a83, e29a84, e29a50, e29a85, e29a20 ret23v, e29a34 ret23v, sI 102 v19, e29a65 w, e29a76, e29a77], [e29a3 g, e29a7, e29a4 ret23v v19, e29a23 seen, e29a9 ret23v v19, e29a0 ret23v, e29a1 ret23v, e29a2 ret23v]⟩ : St)) (by kernel_rfl) (⟨o1, tsI 1 trivial⟩) ?_
          refine awl_nil ?_
          exact thenQ_n ⟨((bOr .u32 out (ret23v.2.2.2.2.2.1.getD ((((((ret23v.2.2.2.1.getD (v19).toNat ((0 : Int), ([] : LI))).2).getD (v11).toNat (0 : Int)) - ret23v.1)).toNat) (0 : Int))), (v11 + (1 : Int))), rfl, h⟩
       ·have h := h.2 hb
        refine cpr (st' := (⟨57, [s1 6 (.pW out), e29a46, e29a83, e29a84, e29a50, e29a85, e29a20 ret23v, e29a34 ret23v, sI 102 v19, e29a65 w, e29a76, e29a77], [e29a3 g, e29a7, e29a4 ret23v v19, e29a23 seen, e29a9 ret23v v19, e29a0 ret23v, e29a1 ret23v, e29a2 ret23v]⟩ : St)) (by kernel_rfl) ?_
        refine aw_exit ?_
        refine thenQ_x ?_
        refine thenQ_x ?_
        refine blockQ_hit ?_
        exact rest15 out h
    ·have h := h.2 hb
     refine cpr (st' := (⟨43, [e29a66 w, e29a78, e29a79], [e29a3 g, e29a7, e29a0 ret23v, e29a1 ret23v, e29a2 ret23v]⟩ : St)) (by kernel_rfl) ?_
     refine aw_exit ?_
     refine thenQ_x ?_
     refine thenQ_x ?_
     refine blockQ_hit ?_
     exact rest12 () h
abbrev e43_0 (g : TG) : Nat × Path × Con := hB 2 [.pI g.1, .pI g.2.1, .pI g.2.2.1, .p (.sl tR) g.2.2.2]
abbrev e43_1 (l : LI) : Nat × Path × AV := sI 8 (l.length : Int)
-- coppicer/coppicerref.Signs
def VC43_k1 (K : Bool → Prop) : Prop :=
  K true
def VC43_l1 (g : TG) (l : LI) (K : Bool → Prop) (v9 : Int) (X1 : Int → Prop) : Prop :=
  (((decide (v9 < (l.length : Int))) = true → (inIdx v9 l.length ∧ (((decide ((l.getD (v9).toNat (0 : Int)) < (0 : Int))) = false → InR (g.1 + g.2.1)) ∧ ((((decide ((l.getD (v9).toNat (0 : Int)) < (0 : Int))) || (decide ((g.1 + g.2.1) ≤ (l.getD (v9).toNat (0 : Int))))) = true → K false) ∧ (((decide ((l.getD (v9).toNat (0 : Int)) < (0 : Int))) || (decide ((g.1 + g.2.1) ≤ (l.getD (v9).toNat (0 : Int))))) = false → (InR (v9 + (1 : Int)) ∧ X1 (v9 + (1 : Int)))))))) ∧ ((decide (v9 < (l.length : Int))) = false → VC43_k1 K))
def VC43 (g : TG) (l : LI) (K : Bool → Prop) : Prop :=
  Loop (σ := Int) (fun s X => VC43_l1 g l K s X) (0 : Int)
set_option maxHeartbeats 4000000 in
theorem link43 (g : TG) (l : LI) (K : Bool → Prop) (h : VC43 g l K) : ACalls Try.prog 43 [toV1 tG g, toV1 (.sl tI) l] (fun res => ∃ y, res = (fun y => [toV1 .bool y]) y ∧ K y) := by
 refine acalls_of_aw [.bool] [.t 4] Try.func43 rfl rfl rfl ?_
 unfold VC43 at h
 refine srn 2 ⟨25, [s1 1 (.pS l), sp 2 2], [e43_0 g]⟩ (by kernel_rfl) rfl ?_
 refine aw_seq ?_
 refine srn 3 ⟨25, [sp 2 2, s1 7 (.pS l), e43_1 l, sI 9 (0 : Int)], [e43_0 g]⟩ (by kernel_rfl) rfl ?_
 refine withJoin (σ := Unit) (fun s => (⟨25, [], []⟩ : St)) (fun s => VC43_k1 K) (fun s h => ?_) (fun rest1 => ?_)
 ·have h : VC43_k1 K := h
  unfold VC43_k1 at h
  refine thenQ_n ?_
  refine srn 1 ⟨25, [sB 4 true], []⟩ (by kernel_rfl) rfl ?_
  refine aw_ret ?_
  exact retQ_r (ob := Ts 1 True) _ (by kernel_rfl) (tsI 1 trivial) h
 ·refine aw_block ?_
  refine aw_loop (σ := Int) (fun s => (⟨25, [sp 2 2, s1 7 (.pS l), e43_1 l, sI 9 s], [e43_0 g]⟩ : St)) (fun s X => VC43_l1 g l K s X) (s0 := (0 : Int)) (fun v9 X1 h => ?_) h
  have h : VC43_l1 g l K v9 X1 := h
  unfold VC43_l1 at h
  refine srn 1 ⟨25, [sp 2 2, s1 7 (.pS l), e43_1 l, sI 9 v9, sB 10 (decide (v9 < (l.length : Int)))], [e43_0 g]⟩ (by kernel_rfl) rfl ?_
  refine aw_seq ?_
  refine aw_cond (b := (decide (v9 < (l.length : Int)))) (by kernel_rfl) (fun hb => ?_) (fun hb => ?_)
  ·have h := h.1 hb
   refine aw_skip ?_
   refine thenQ_n ?_
   refine aw_seq ?_
   refine aw_block ?_
   refine sr ?_
   obtain ⟨o1, h⟩ := h
   refine rq 3 (ob := (inIdx v9 l.length ∧ Ts 2 True)) (st' := (⟨25, [sp 2 2, sI 6 (l.getD (v9).toNat (0 : Int)), s1 7 (.pS l), e43_1 l, sI 9 v9], [e43_0 g]⟩ : St)) (by kernel_rfl) (⟨o1, tsI 2 trivial⟩) ?_
   refine nsr ?_
   obtain ⟨o1, h⟩ := h
   refine rq 11 (ob := (Ts 3 (Ti 5 ((decide ((l.getD (v9).toNat (0 : Int)) < (0 : Int))) = false → True) (((decide ((l.getD (v9).toNat (0 : Int)) < (0 : Int))) = false → InR (g.1 + g.2.1)) ∧ ((decide ((l.getD (v9).toNat (0 : Int)) < (0 : Int))) = false → True) ∧ Ts 1 True)))) (st' := (⟨25, [sp 2 2, s1 7 (.pS l), e43_1 l, sI 9 v9, sB 23 ((decide ((l.getD (v9).toNat (0 : Int)) < (0 : Int))) || (decide ((g.1 + g.2.1) ≤ (l.getD (v9).toNat (0 : Int)))))], [e43_0 g]⟩ : St)) (by kernel_rfl) (tsI 3 (tiI 5 (fun _ => trivial) (⟨o1, ⟨(fun _ => trivial), tsI 1 trivial⟩⟩))) ?_
   refine nn ?_
   refine aw_cond (b := ((decide ((l.getD (v9).toNat (0 : Int)) < (0 : Int))) || (decide ((g.1 + g.2.1) ≤ (l.getD (v9).toNat (0 : Int)))))) (by kernel_rfl) (fun hb => ?_) (fun hb => ?_)
   ·have h := h.1 hb
    refine srn 1 ⟨25, [sB 4 false], []⟩ (by kernel_rfl) rfl ?_
    refine aw_ret ?_
    refine blockQ_r ?_
    refine thenQ_r ?_
    refine thenQ_r ?_
    refine blockQ_r ?_
    refine thenQ_r ?_
    exact retQ_r (ob := Ts 1 True) _ (by kernel_rfl) (tsI 1 trivial) h
   ·have h := h.2 hb
    refine aw_skip ?_
    refine blockQ_n ?_
    refine thenQ_n ?_
    refine aw_region ?_
    obtain ⟨o1, h⟩ := h
    refine rq 2 (ob := (InR (v9 + (1 : Int)) ∧ Ts 1 True)) (st' := (⟨25, [sp 2 2, s1 7 (.pS l), e43_1 l, sI 9 (v9 + (1 : Int))], [e43_0 g]⟩ : St)) (by kernel_rfl) (⟨o1, tsI 1 trivial⟩) ?_
    refine awl_nil ?_
    exact thenQ_n ⟨(v9 + (1 : Int)), rfl, h⟩
  ·have h := h.2 hb
   refine cpr (st' := (⟨25, [], []⟩ : St)) (by kernel_rfl) ?_
   refine aw_exit ?_
   refine thenQ_x ?_
   refine thenQ_x ?_
   refine blockQ_hit ?_
   exact rest1 () h
abbrev e18_0 (g : TG) : Nat × Path × Con := hB 1 [.pI g.1, .pI g.2.1, .pI g.2.2.1, .p (.sl tR) g.2.2.2]
abbrev e18_1 (g : TG) : Nat × Path × AV := s1 54 (.p (.sl tR) g.2.2.2)
abbrev e18_2 (g : TG) : Nat × Path × AV := s1 32 (.p (.sl tR) g.2.2.2)
abbrev e18_3 (g : TG) (v56 : Int) : Nat × Path × AV := sB 70 ((decide ((g.2.2.2.getD (v56).toNat ((0 : Int), ([] : LI))).1 < (0 : Int))) || (decide (g.2.1 ≤ (g.2.2.2.getD (v56).toNat ((0 : Int), ([] : LI))).1)))
abbrev e18_4 (g : TG) : Nat × Path × AV := sI 55 (g.2.2.2.length : Int)
abbrev e18_5 (g : TG) : Nat × Path × AV := sI 33 (g.2.2.2.length : Int)
-- coppicer/coppicerref.GrammarCheck
def VC18_k2 (K : Int → Prop) : Prop :=
  K (0 : Int)
def VC18_l1 (g : TG) (K : Int → Prop) (v56 : Int) (X1 : Int → Prop) : Prop :=
  (((decide (v56 < (g.2.2.2.length : Int))) = true → (inIdx v56 g.2.2.2.length ∧ gcall (α := Bool) (!((decide ((g.2.2.2.getD (v56).toNat ((0 : Int), ([] : LI))).1 < (0 : Int))) || (decide (g.2.1 ≤ (g.2.2.2.getD (v56).toNat ((0 : Int), ([] : LI))).1)))) (VC43 g ((g.2.2.2.getD (v56).toNat ((0 : Int), ([] : LI))).2)) false (fun (ret74v : Bool) => (((((decide ((g.2.2.2.getD (v56).toNat ((0 : Int), ([] : LI))).1 < (0 : Int))) || (decide (g.2.1 ≤ (g.2.2.2.getD (v56).toNat ((0 : Int), ([] : LI))).1))) || (!ret74v)) = true → K (2 : Int)) ∧ ((((decide ((g.2.2.2.getD (v56).toNat ((0 : Int), ([] : LI))).1 < (0 : Int))) || (decide (g.2.1 ≤ (g.2.2.2.getD (v56).toNat ((0 : Int), ([] : LI))).1))) || (!ret74v)) = false → (InR (v56 + (1 : Int)) ∧ X1 (v56 + (1 : Int)))))))) ∧ ((decide (v56 < (g.2.2.2.length : Int))) = false → VC18_k2 K))
def VC18_k1 (g : TG) (K : Int → Prop) : Prop :=
  ((((decide (g.2.2.1 < (0 : Int))) || (decide (g.2.1 ≤ g.2.2.1))) = true → K (2 : Int)) ∧ (((decide (g.2.2.1 < (0 : Int))) || (decide (g.2.1 ≤ g.2.2.1))) = false → Loop (σ := Int) (fun s X => VC18_l1 g K s X) (0 : Int)))
def VC18_l2 (g : TG) (K : Int → Prop) (v34 : Int) (X2 : Int → Prop) : Prop :=
  (((decide (v34 < (g.2.2.2.length : Int))) = true → (inIdx v34 g.2.2.2.length ∧ (((decide ((4 : Int) < (((g.2.2.2.getD (v34).toNat ((0 : Int), ([] : LI))).2).length : Int))) = true → K (1 : Int)) ∧ ((decide ((4 : Int) < (((g.2.2.2.getD (v34).toNat ((0 : Int), ([] : LI))).2).length : Int))) = false → (InR (v34 + (1 : Int)) ∧ X2 (v34 + (1 : Int))))))) ∧ ((decide (v34 < (g.2.2.2.length : Int))) = false → VC18_k1 g K))
def VC18 (g : TG) (K : Int → Prop) : Prop :=
  (((((((decide (g.1 < (1 : Int))) || (decide ((3 : Int) < g.1))) || (decide (g.2.1 < (1 : Int)))) || (decide ((5 : Int) < g.2.1))) || (decide ((10 : Int) < (g.2.2.2.length : Int)))) = true → K (1 : Int)) ∧ ((((((decide (g.1 < (1 : Int))) || (decide ((3 : Int) < g.1))) || (decide (g.2.1 < (1 : Int)))) || (decide ((5 : Int) < g.2.1))) || (decide ((10 : Int) < (g.2.2.2.length : Int)))) = false → Loop (σ := Int) (fun s X => VC18_l2 g K s X) (0 : Int)))
set_option maxHeartbeats 4000000 in
theorem link18 (g : TG) (K : Int → Prop) (h : VC18 g K) : ACalls Try.prog 18 [toV1 tG g] (fun res => ∃ y, res = (fun y => [toV1 tI y]) y ∧ K y) := by
 refine acalls_of_aw [tI] [.t 2] Try.func18 rfl rfl rfl ?_
 unfold VC18 at h
 refine srn 2 ⟨78, [sp 1 1], [e18_0 g]⟩ (by kernel_rfl) rfl ?_
 refine aw_seq ?_
 refine sr ?_
 refine rq 24 (ob := (Ts 4 (Ti 3 ((decide (g.1 < (1 : Int))) = false → True) (Ts 2 (Ti 3 (((decide (g.1 < (1 : Int))) || (decide ((3 : Int) < g.1))) = false → True) (Ts 2 (Ti 3 ((((decide (g.1 < (1 : Int))) || (decide ((3 : Int) < g.1))) || (decide (g.2.1 < (1 : Int)))) = false → True) (Ts 2 (Ti 4 (((((decide (g.1 < (1 : Int))) || (decide ((3 : Int) < g.1))) || (decide (g.2.1 < (1 : Int)))) || (decide ((5 : Int) < g.2.1))) = false → True) (Ts 1 True)))))))))) (st' := (⟨78, [sp 1 1, sB 30 (((((decide (g.1 < (1 : Int))) || (decide ((3 : Int) < g.1))) || (decide (g.2.1 < (1 : Int)))) || (decide ((5 : Int) < g.2.1))) || (decide ((10 : Int) < (g.2.2.2.length : Int))))], [e18_0 g]⟩ : St)) (by kernel_rfl) (tsI 4 (tiI 3 (fun _ => trivial) (tsI 2 (tiI 3 (fun _ => trivial) (tsI 2 (tiI 3 (fun _ => trivial) (tsI 2 (tiI 4 (fun _ => trivial) (tsI 1 trivial))))))))) ?_
 refine nn ?_
 refine aw_cond (b := (((((decide (g.1 < (1 : Int))) || (decide ((3 : Int) < g.1))) || (decide (g.2.1 < (1 : Int)))) || (decide ((5 : Int) < g.2.1))) || (decide ((10 : Int) < (g.2.2.2.length : Int))))) (by kernel_rfl) (fun hb => ?_) (fun hb => ?_)
 ·have h := h.1 hb
  refine srn 1 ⟨78, [sI 2 (1 : Int)], []⟩ (by kernel_rfl) rfl ?_
  refine aw_ret ?_
  refine thenQ_r ?_
  exact retQ_r (ob := Ts 1 True) _ (by kernel_rfl) (tsI 1 trivial) h
 ·have h := h.2 hb
  refine aw_skip ?_
  refine thenQ_n ?_
  refine aw_seq ?_
  refine srn 4 ⟨78, [sp 1 1, e18_2 g, e18_5 g, sI 34 (0 : Int)], [e18_0 g]⟩ (by kernel_rfl) rfl ?_
  refine withJoin (σ := Unit) (fun s => (⟨78, [sp 1 1], [e18_0 g]⟩ : St)) (fun s => VC18_k1 g K) (fun s h => ?_) (fun rest2 => ?_)
  ·have h : VC18_k1 g K := h
   unfold VC18_k1 at h
   refine thenQ_n ?_
   refine aw_seq ?_
   refine sr ?_
   refine rq 10 (ob := (Ts 4 (Ti 5 ((decide (g.2.2.1 < (0 : Int))) = false → True) (Ts 1 True)))) (st' := (⟨78, [sp 1 1, sB 52 ((decide (g.2.2.1 < (0 : Int))) || (decide (g.2.1 ≤ g.2.2.1)))], [e18_0 g]⟩ : St)) (by kernel_rfl) (tsI 4 (tiI 5 (fun _ => trivial) (tsI 1 trivial))) ?_
   refine nn ?_
   refine aw_cond (b := ((decide (g.2.2.1 < (0 : Int))) || (decide (g.2.1 ≤ g.2.2.1)))) (by kernel_rfl) (fun hb => ?_) (fun hb => ?_)
   ·have h := h.1 hb
    refine srn 1 ⟨78, [sI 2 (2 : Int)], []⟩ (by kernel_rfl) rfl ?_
    refine aw_ret ?_
    refine thenQ_r ?_
    exact retQ_r (ob := Ts 1 True) _ (by kernel_rfl) (tsI 1 trivial) h
   ·have h := h.2 hb
    refine aw_skip ?_
    refine thenQ_n ?_
    refine aw_seq ?_
    refine srn 4 ⟨78, [sp 1 1, e18_1 g, e18_4 g, sI 56 (0 : Int)], [e18_0 g]⟩ (by kernel_rfl) rfl ?_
    refine withJoin (σ := Unit) (fun s => (⟨78, [], []⟩ : St)) (fun s => VC18_k2 K) (fun s h => ?_) (fun rest1 => ?_)
    ·have h : VC18_k2 K := h
     unfold VC18_k2 at h
     refine thenQ_n ?_
     refine srn 1 ⟨78, [sI 2 (0 : Int)], []⟩ (by kernel_rfl) rfl ?_
     refine aw_ret ?_
     exact retQ_r (ob := Ts 1 True) _ (by kernel_rfl) (tsI 1 trivial) h
    ·refine aw_block ?_
     refine aw_loop (σ := Int) (fun s => (⟨78, [sp 1 1, e18_1 g, e18_4 g, sI 56 s], [e18_0 g]⟩ : St)) (fun s X => VC18_l1 g K s X) (s0 := (0 : Int)) (fun v56 X1 h => ?_) h
     have h : VC18_l1 g K v56 X1 := h
     unfold VC18_l1 at h
     refine srn 1 ⟨78, [sp 1 1, e18_1 g, e18_4 g, sI 56 v56, sB 57 (decide (v56 < (g.2.2.2.length : Int)))], [e18_0 g]⟩ (by kernel_rfl) rfl ?_
     refine aw_seq ?_
     refine aw_cond (b := (decide (v56 < (g.2.2.2.length : Int)))) (by kernel_rfl) (fun hb => ?_) (fun hb => ?_)
     ·have h := h.1 hb
      refine aw_skip ?_
      refine thenQ_n ?_
      refine aw_seq ?_
      refine aw_block ?_
      refine sr ?_
      obtain ⟨o1, h⟩ := h
      refine rq 4 (ob := (inIdx v56 g.2.2.2.length ∧ Ts 3 True)) (st' := (⟨78, [sp 1 1, sp 6 6, e18_1 g, e18_4 g, sI 56 v56], [e18_0 g, hB 6 [.pI ((g.2.2.2.getD (v56).toNat ((0 : Int), ([] : LI))).1), .pS ((g.2.2.2.getD (v56).toNat ((0 : Int), ([] : LI))).2)]]⟩ : St)) (by kernel_rfl) (⟨o1, tsI 3 trivial⟩) ?_
      refine nsr ?_
      refine rq 14 (ob := (Ts 4 (Ti 5 ((decide ((g.2.2.2.getD (v56).toNat ((0 : Int), ([] : LI))).1 < (0 : Int))) = false → True) (Ts 2 (Ti 3 (((decide ((g.2.2.2.getD (v56).toNat ((0 : Int), ([] : LI))).1 < (0 : Int))) || (decide (g.2.1 ≤ (g.2.2.2.getD (v56).toNat ((0 : Int), ([] : LI))).1))) = false → True) True))))) (st' := (⟨78, [sp 1 1, e18_1 g, e18_4 g, sI 56 v56, e18_3 g v56, (71, [(70, false)], .v (.agg [.pI g.1, .pI g.2.1, .pI g.2.2.1, .p (.sl tR) g.2.2.2])), (73, [(70, false)], .v (.c (.pS ((g.2.2.2.getD (v56).toNat ((0 : Int), ([] : LI))).2))))], [e18_0 g]⟩ : St)) (by kernel_rfl) (tsI 4 (tiI 5 (fun _ => trivial) (tsI 2 (tiI 3 (fun _ => trivial) trivial)))) ?_
      refine awl_callk (p := [(70, false)]) (l := [toV1 tG g, toV1 (.sl tI) ((g.2.2.2.getD (v56).toNat ((0 : Int), ([] : LI))).2)]) (cl := []) false [.d tG, .d (.sl tI)] [1, 54, 55, 56, 70, 74] [1] (fun (ret74v : Bool) => (((((decide ((g.2.2.2.getD (v56).toNat ((0 : Int), ([] : LI))).1 < (0 : Int))) || (decide (g.2.1 ≤ (g.2.2.2.getD (v56).toNat ((0 : Int), ([] : LI))).1))) || (!ret74v)) = true → K (2 : Int)) ∧ ((((decide ((g.2.2.2.getD (v56).toNat ((0 : Int), ([] : LI))).1 < (0 : Int))) || (decide (g.2.1 ≤ (g.2.2.2.getD (v56).toNat ((0 : Int), ([] : LI))).1))) || (!ret74v)) = false → (InR (v56 + (1 : Int)) ∧ X1 (v56 + (1 : Int)))))) (fun ret74v => [toV1 .bool ret74v]) (fun ret74v => (⟨78, [sp 1 1, e18_1 g, e18_4 g, sI 56 v56, e18_3 g v56, (74, [(70, false)], .v (.c (.pB ret74v)))], [e18_0 g]⟩ : St)) (by kernel_rfl) rfl (by kernel_rfl) rfl (by kernel_rfl) Try.call43 (by kernel_rfl) (fun ret74v => by kernel_rfl) (fun e => by cases e) (fun hg => link43 g ((g.2.2.2.getD (v56).toNat ((0 : Int), ([] : LI))).2) _ (by have := gcall_T h (show (!((decide ((g.2.2.2.getD (v56).toNat ((0 : Int), ([] : LI))).1 < (0 : Int))) || (decide (g.2.1 ≤ (g.2.2.2.getD (v56).toNat ((0 : Int), ([] : LI))).1)))) = true from hg); exact this)) (fun hg => ⟨false, by have := gcall_F h (show (!((decide ((g.2.2.2.getD (v56).toNat ((0 : Int), ([] : LI))).1 < (0 : Int))) || (decide (g.2.1 ≤ (g.2.2.2.getD (v56).toNat ((0 : Int), ([] : LI))).1)))) = false from hg); exact this⟩) (fun ret74v h => ?_)
      refine rq 2 (ob := ((((decide ((g.2.2.2.getD (v56).toNat ((0 : Int), ([] : LI))).1 < (0 : Int))) || (decide (g.2.1 ≤ (g.2.2.2.getD (v56).toNat ((0 : Int), ([] : LI))).1))) = false → True) ∧ Ts 1 True)) (st' := (⟨78, [sp 1 1, e18_1 g, e18_4 g, sI 56 v56, sB 76 (((decide ((g.2.2.2.getD (v56).toNat ((0 : Int), ([] : LI))).1 < (0 : Int))) || (decide (g.2.1 ≤ (g.2.2.2.getD (v56).toNat ((0 : Int), ([] : LI))).1))) || (!ret74v))], [e18_0 g]⟩ : St)) (by kernel_rfl) (⟨(fun _ => trivial), tsI 1 trivial⟩) ?_
      refine nn ?_
      refine aw_cond (b := (((decide ((g.2.2.2.getD (v56).toNat ((0 : Int), ([] : LI))).1 < (0 : Int))) || (decide (g.2.1 ≤ (g.2.2.2.getD (v56).toNat ((0 : Int), ([] : LI))).1))) || (!ret74v))) (by kernel_rfl) (fun hb => ?_) (fun hb => ?_)
      ·have h := h.1 hb
       refine srn 1 ⟨78, [sI 2 (2 : Int)], []⟩ (by kernel_rfl) rfl ?_
       refine aw_ret ?_
       refine blockQ_r ?_
       refine thenQ_r ?_
       refine thenQ_r ?_
       refine blockQ_r ?_
       refine thenQ_r ?_
       exact retQ_r (ob := Ts 1 True) _ (by kernel_rfl) (tsI 1 trivial) h
      ·have h := h.2 hb
       refine aw_skip ?_
       refine blockQ_n ?_
       refine thenQ_n ?_
       refine aw_region ?_
       obtain ⟨o1, h⟩ := h
       refine rq 2 (ob := (InR (v56 + (1 : Int)) ∧ Ts 1 True)) (st' := (⟨78, [sp 1 1, e18_1 g, e18_4 g, sI 56 (v56 + (1 : Int))], [e18_0 g]⟩ : St)) (by kernel_rfl) (⟨o1, tsI 1 trivial⟩) ?_
       refine awl_nil ?_
       exact thenQ_n ⟨(v56 + (1 : Int)), rfl, h⟩
     ·have h := h.2 hb
      refine cpr (st' := (⟨78, [], []⟩ : St)) (by kernel_rfl) ?_
      refine aw_exit ?_
      refine thenQ_x ?_
      refine thenQ_x ?_
      refine blockQ_hit ?_
      exact rest1 () h
  ·refine aw_block ?_
   refine aw_loop (σ := Int) (fun s => (⟨78, [sp 1 1, e18_2 g, e18_5 g, sI 34 s], [e18_0 g]⟩ : St)) (fun s X => VC18_l2 g K s X) (s0 := (0 : Int)) (fun v34 X2 h => ?_) h
   have h : VC18_l2 g K v34 X2 := h
   unfold VC18_l2 at h
   refine srn 1 ⟨78, [sp 1 1, e18_2 g, e18_5 g, sI 34 v34, sB 35 (decide (v34 < (g.2.2.2.length : Int)))], [e18_0 g]⟩ (by kernel_rfl) rfl ?_
   refine aw_seq ?_
   refine aw_cond (b := (decide (v34 < (g.2.2.2.length : Int)))) (by kernel_rfl) (fun hb => ?_) (fun hb => ?_)
   ·have h := h.1 hb
    refine aw_skip ?_
    refine thenQ_n ?_
    refine aw_seq ?_
    refine aw_block ?_
    refine sr ?_
    obtain ⟨o1, h⟩ := h
    refine rq 4 (ob := (inIdx v34 g.2.2.2.length ∧ Ts 3 True)) (st' := (⟨78, [sp 1 1, sp 4 4, e18_2 g, e18_5 g, sI 34 v34], [e18_0 g, hB 4 [.pI ((g.2.2.2.getD (v34).toNat ((0 : Int), ([] : LI))).1), .pS ((g.2.2.2.getD (v34).toNat ((0 : Int), ([] : LI))).2)]]⟩ : St)) (by kernel_rfl) (⟨o1, tsI 3 trivial⟩) ?_
    refine nsr ?_
    refine rqT 4 ⟨78, [sp 1 1, e18_2 g, e18_5 g, sI 34 v34, sB 41 (decide ((4 : Int) < (((g.2.2.2.getD (v34).toNat ((0 : Int), ([] : LI))).2).length : Int)))], [e18_0 g]⟩ (by kernel_rfl) ?_
    refine nn ?_
    refine aw_cond (b := (decide ((4 : Int) < (((g.2.2.2.getD (v34).toNat ((0 : Int), ([] : LI))).2).length : Int)))) (by kernel_rfl) (fun hb => ?_) (fun hb => ?_)
    ·have h := h.1 hb
     refine srn 1 ⟨78, [sI 2 (1 : Int)], []⟩ (by kernel_rfl) rfl ?_
     refine aw_ret ?_
     refine blockQ_r ?_
     refine thenQ_r ?_
     refine thenQ_r ?_
     refine blockQ_r ?_
     refine thenQ_r ?_
     exact retQ_r (ob := Ts 1 True) _ (by kernel_rfl) (tsI 1 trivial) h
    ·have h := h.2 hb
     refine aw_skip ?_
     refine blockQ_n ?_
     refine thenQ_n ?_
     refine aw_region ?_
     obtain ⟨o1, h⟩ := h
     refine rq 2 (ob := (InR (v34 + (1 : Int)) ∧ Ts 1 True)) (st' := (⟨78, [sp 1 1, e18_2 g, e18_5 g, sI 34 (v34 + (1 : Int))], [e18_0 g]⟩ : St)) (by kernel_rfl) (⟨o1, tsI 1 trivial⟩) ?_
     refine awl_nil ?_
     exact thenQ_n ⟨(v34 + (1 : Int)), rfl, h⟩
   ·have h := h.2 hb
    refine cpr (st' := (⟨78, [sp 1 1], [e18_0 g]⟩ : St)) (by kernel_rfl) ?_
    refine aw_exit ?_
    refine thenQ_x ?_
    refine thenQ_x ?_
    refine blockQ_hit ?_
    exact rest2 () h
abbrev e46_0 (w : LI) : Nat × Path × AV := sI 11 (w.length : Int)
-- coppicer/coppicerref.WordCheck
def VC46_k1 (K : Int → Prop) : Prop :=
  K (0 : Int)
def VC46_l1 (k : Int) (w : LI) (K : Int → Prop) (v12 : Int) (X1 : Int → Prop) : Prop :=
  (((decide (v12 < (w.length : Int))) = true → (inIdx v12 w.length ∧ ((((decide ((w.getD (v12).toNat (0 : Int)) < (0 : Int))) || (decide (k ≤ (w.getD (v12).toNat (0 : Int))))) = true → K (2 : Int)) ∧ (((decide ((w.getD (v12).toNat (0 : Int)) < (0 : Int))) || (decide (k ≤ (w.getD (v12).toNat (0 : Int))))) = false → (InR (v12 + (1 : Int)) ∧ X1 (v12 + (1 : Int))))))) ∧ ((decide (v12 < (w.length : Int))) = false → VC46_k1 K))
def VC46 (k : Int) (w : LI) (K : Int → Prop) : Prop :=
  (((decide ((12 : Int) < (w.length : Int))) = true → K (1 : Int)) ∧ ((decide ((12 : Int) < (w.length : Int))) = false → Loop (σ := Int) (fun s X => VC46_l1 k w K s X) (0 : Int)))
set_option maxHeartbeats 4000000 in
theorem link46 (k : Int) (w : LI) (K : Int → Prop) (h : VC46 k w K) : ACalls Try.prog 46 [toV1 tI k, toV1 (.sl tI) w] (fun res => ∃ y, res = (fun y => [toV1 tI y]) y ∧ K y) := by
 refine acalls_of_aw [tI] [.t 4] Try.func46 rfl rfl rfl ?_
 unfold VC46 at h
 refine srn 1 ⟨24, [sI 0 k, s1 1 (.pS w)], []⟩ (by kernel_rfl) rfl ?_
 refine aw_seq ?_
 refine srn 3 ⟨24, [sI 0 k, s1 1 (.pS w), sB 9 (decide ((12 : Int) < (w.length : Int)))], []⟩ (by kernel_rfl) rfl ?_
 refine aw_cond (b := (decide ((12 : Int) < (w.length : Int)))) (by kernel_rfl) (fun hb => ?_) (fun hb => ?_)
 ·have h := h.1 hb
  refine srn 1 ⟨24, [sI 4 (1 : Int)], []⟩ (by kernel_rfl) rfl ?_
  refine aw_ret ?_
  refine thenQ_r ?_
  exact retQ_r (ob := Ts 1 True) _ (by kernel_rfl) (tsI 1 trivial) h
 ·have h := h.2 hb
  refine aw_skip ?_
  refine thenQ_n ?_
  refine aw_seq ?_
  refine srn 3 ⟨24, [sI 0 k, s1 10 (.pS w), e46_0 w, sI 12 (0 : Int)], []⟩ (by kernel_rfl) rfl ?_
  refine withJoin (σ := Unit) (fun s => (⟨24, [], []⟩ : St)) (fun s => VC46_k1 K) (fun s h => ?_) (fun rest1 => ?_)
  ·have h : VC46_k1 K := h
   unfold VC46_k1 at h
   refine thenQ_n ?_
   refine srn 1 ⟨24, [sI 4 (0 : Int)], []⟩ (by kernel_rfl) rfl ?_
   refine aw_ret ?_
   exact retQ_r (ob := Ts 1 True) _ (by kernel_rfl) (tsI 1 trivial) h
  ·refine aw_block ?_
   refine aw_loop (σ := Int) (fun s => (⟨24, [sI 0 k, s1 10 (.pS w), e46_0 w, sI 12 s], []⟩ : St)) (fun s X => VC46_l1 k w K s X) (s0 := (0 : Int)) (fun v12 X1 h => ?_) h
   have h : VC46_l1 k w K v12 X1 := h
   unfold VC46_l1 at h
   refine srn 1 ⟨24, [sI 0 k, s1 10 (.pS w), e46_0 w, sI 12 v12, sB 13 (decide (v12 < (w.length : Int)))], []⟩ (by kernel_rfl) rfl ?_
   refine aw_seq ?_
   refine aw_cond (b := (decide (v12 < (w.length : Int)))) (by kernel_rfl) (fun hb => ?_) (fun hb => ?_)
   ·have h := h.1 hb
    refine aw_skip ?_
    refine thenQ_n ?_
    refine aw_seq ?_
    refine aw_block ?_
    refine sr ?_
    obtain ⟨o1, h⟩ := h
    refine rq 3 (ob := (inIdx v12 w.length ∧ Ts 2 True)) (st' := (⟨24, [sI 0 k, sI 6 (w.getD (v12).toNat (0 : Int)), s1 10 (.pS w), e46_0 w, sI 12 v12], []⟩ : St)) (by kernel_rfl) (⟨o1, tsI 2 trivial⟩) ?_
    refine nsr ?_
    refine rq 7 (ob := (Ts 3 (Ti 3 ((decide ((w.getD (v12).toNat (0 : Int)) < (0 : Int))) = false → True) (Ts 1 True)))) (st' := (⟨24, [sI 0 k, s1 10 (.pS w), e46_0 w, sI 12 v12, sB 22 ((decide ((w.getD (v12).toNat (0 : Int)) < (0 : Int))) || (decide (k ≤ (w.getD (v12).toNat (0 : Int)))))], []⟩ : St)) (by kernel_rfl) (tsI 3 (tiI 3 (fun _ => trivial) (tsI 1 trivial))) ?_
    refine nn ?_
    refine aw_cond (b := ((decide ((w.getD (v12).toNat (0 : Int)) < (0 : Int))) || (decide (k ≤ (w.getD (v12).toNat (0 : Int)))))) (by kernel_rfl) (fun hb => ?_) (fun hb => ?_)
    ·have h := h.1 hb
     refine srn 1 ⟨24, [sI 4 (2 : Int)], []⟩ (by kernel_rfl) rfl ?_
     refine aw_ret ?_
     refine blockQ_r ?_
     refine thenQ_r ?_
     refine thenQ_r ?_
     refine blockQ_r ?_
     refine thenQ_r ?_
     exact retQ_r (ob := Ts 1 True) _ (by kernel_rfl) (tsI 1 trivial) h
    ·have h := h.2 hb
     refine aw_skip ?_
     refine blockQ_n ?_
     refine thenQ_n ?_
     refine aw_region ?_
     obtain ⟨o1, h⟩ := h
     refine rq 2 (ob := (InR (v12 + (1 : Int)) ∧ Ts 1 True)) (st' := (⟨24, [sI 0 k, s1 10 (.pS w), e46_0 w, sI 12 (v12 + (1 : Int))], []⟩ : St)) (by kernel_rfl) (⟨o1, tsI 1 trivial⟩) ?_
     refine awl_nil ?_
     exact thenQ_n ⟨(v12 + (1 : Int)), rfl, h⟩
   ·have h := h.2 hb
    refine cpr (st' := (⟨24, [], []⟩ : St)) (by kernel_rfl) ?_
    refine aw_exit ?_
    refine thenQ_x ?_
    refine thenQ_x ?_
    refine blockQ_hit ?_
    exact rest1 () h
abbrev e21_0 (g : TG) : Nat × Path × Con := hB 2 [.pI g.1, .pI g.2.1, .pI g.2.2.1, .p (.sl tR) g.2.2.2]
-- coppicer/coppicerkeep.grown
def VC21 (g : TG) (w : LI) (K : Bool → Prop) : Prop :=
  VC18 g (fun (ret6v : Int) => gcall (α := Int) (decide (ret6v = (0 : Int))) (VC46 g.1 w) (0 : Int) (fun (ret12v : Int) => K ((decide (ret6v = (0 : Int))) && (decide (ret12v = (0 : Int))))))
set_option maxHeartbeats 4000000 in
theorem link21 (g : TG) (w : LI) (K : Bool → Prop) (h : VC21 g w K) : ACalls Try.prog 21 [toV1 tG g, toV1 (.sl tI) w] (fun res => ∃ y, res = (fun y => [toV1 .bool y]) y ∧ K y) := by
 refine acalls_of_aw [.bool] [.t 4] Try.func21 rfl rfl rfl ?_
 unfold VC21 at h
 refine sr ?_
 refine rqT 2 ⟨15, [s1 1 (.pS w), sp 2 2], [e21_0 g]⟩ (by kernel_rfl) ?_
 refine nsr ?_
 refine rqT 1 ⟨15, [s1 1 (.pS w), sp 2 2, sA 5 [.pI g.1, .pI g.2.1, .pI g.2.2.1, .p (.sl tR) g.2.2.2]], [e21_0 g]⟩ (by kernel_rfl) ?_
 refine lcq (d := 6) [.d tG] (fun ret6v => (⟨15, [s1 1 (.pS w), sp 2 2, sI 6 ret6v], [e21_0 g]⟩ : St)) (by kernel_rfl) Try.call18 (fun _ => by kernel_rfl) (link18 g _ h) (fun ret6v h => ?_)
 refine rq 5 (ob := (Ts 2 (Ti 3 ((decide (ret6v = (0 : Int))) = true → True) True))) (st' := (⟨15, [sB 8 (decide (ret6v = (0 : Int))), (10, [(8, true)], .v (.c (.pI g.1))), (11, [(8, true)], .v (.c (.pS w)))], []⟩ : St)) (by kernel_rfl) (tsI 2 (tiI 3 (fun _ => trivial) trivial)) ?_
 refine awl_callk (p := [(8, true)]) (l := [toV1 tI g.1, toV1 (.sl tI) w]) (cl := []) false [.d tI, .d (.sl tI)] [8, 12] [] (fun (ret12v : Int) => K ((decide (ret6v = (0 : Int))) && (decide (ret12v = (0 : Int))))) (fun ret12v => [toV1 tI ret12v]) (fun ret12v => (⟨15, [sB 8 (decide (ret6v = (0 : Int))), (12, [(8, true)], .v (.c (.pI ret12v)))], []⟩ : St)) (by kernel_rfl) rfl (by kernel_rfl) rfl (by kernel_rfl) Try.call46 (by kernel_rfl) (fun ret12v => by kernel_rfl) (fun e => by cases e) (fun hg => link46 g.1 w _ (by have := gcall_T h (show (decide (ret6v = (0 : Int))) = true from hg); exact this)) (fun hg => ⟨(0 : Int), by have := gcall_F h (show (decide (ret6v = (0 : Int))) = false from hg); exact this⟩) (fun ret12v h => ?_)
 refine rq 3 (ob := (((decide (ret6v = (0 : Int))) = true → True) ∧ Ts 2 True)) (st' := (⟨15, [sB 4 ((decide (ret6v = (0 : Int))) && (decide (ret12v = (0 : Int))))], []⟩ : St)) (by kernel_rfl) (⟨(fun _ => trivial), tsI 2 trivial⟩) ?_
 refine nn ?_
 refine aw_ret ?_
 exact retQ_r (ob := Ts 1 True) _ (by kernel_rfl) (tsI 1 trivial) h
-- coppicer/pick.Word$1
def VC60 (sv : Int) (a1 : TG) (K : Bool → Prop) : Prop :=
  K ((decide (sv < (0 : Int))) || (decide ((a1.2.2.2.length : Int) ≤ sv)))
set_option maxHeartbeats 4000000 in
theorem link60 (sv : Int) (a1 : TG) (K : Bool → Prop) (h : VC60 sv a1 K) : ACalls Try.prog 60 [toV1 tI sv, .c (.ad tG a1)] (fun res => ∃ y, res = (fun y => [toV1 .bool y]) y ∧ K y) := by
 refine acalls_of_aw [.bool] [.t 3] Try.func60 rfl rfl rfl ?_
 unfold VC60 at h
 refine sr ?_
 refine rqT 1 ⟨13, [sI 0 sv, s1 1 (.ad tG a1)], []⟩ (by kernel_rfl) ?_
 refine nsr ?_
 refine rq 10 (ob := (Ts 3 (Ti 5 ((decide (sv < (0 : Int))) = false → True) (Ts 2 True)))) (st' := (⟨13, [sB 3 ((decide (sv < (0 : Int))) || (decide ((a1.2.2.2.length : Int) ≤ sv)))], []⟩ : St)) (by kernel_rfl) (tsI 3 (tiI 5 (fun _ => trivial) (tsI 2 trivial))) ?_
 refine nn ?_
 refine aw_ret ?_
 exact retQ_r (ob := Ts 1 True) _ (by kernel_rfl) (tsI 1 trivial) h
abbrev e61_0 (g : TG) : Nat × Path × Con := hB 3 [.pI g.1, .pI g.2.1, .pI g.2.2.1, .p (.sl tR) g.2.2.2]
abbrev e61_1 (g : TG) (steps : LI) : Nat × Path × AV := sI 70 (((g.2.2.2.getD ((steps.getD ((0 : Int)).toNat (0 : Int))).toNat ((0 : Int), ([] : LI))).2).length : Int)
abbrev e61_2 (g : TG) (steps : LI) : Nat × Path × AV := s1 69 (.pS ((g.2.2.2.getD ((steps.getD ((0 : Int)).toNat (0 : Int))).toNat ((0 : Int), ([] : LI))).2))
abbrev e61_3 (steps : LI) : Nat × Path × Con := hB 9 [.pI (steps.getD ((0 : Int)).toNat (0 : Int)), .own 6181, .own 6182]
abbrev e61_4 : Nat × Path × Con := hB 6 [.pI (0 : Int), .nils, .nils]
abbrev e61_5 (l6181 : (List Tree)) (ret79v : Tree × LI × Bool) : Nat × Path × Con := hA 90 102 .tr (l6181 ++ [(Tree.node ret79v.1.rule ret79v.1.kids ret79v.1.word)])
abbrev e61_6 (l6182 : LI) : Nat × Path × Con := hA 6182 3 tI l6182
abbrev e61_7 (ret79v : Tree × LI × Bool) : Nat × Path × Con := hB 12 [.pI ret79v.1.rule, .p (.sl .tr) ret79v.1.kids, .pS ret79v.1.word]
abbrev e61_8 (steps : LI) : Nat × Path × Con := hB 9 [.pI (steps.getD ((0 : Int)).toNat (0 : Int)), .own 90, .own 96]
abbrev e61_9 (steps : LI) : Nat × Path × Con := hB 9 [.pI (steps.getD ((0 : Int)).toNat (0 : Int)), .nils, .nils]
-- coppicer/pick.grow
def VC61_k1 (steps : LI) (K : Tree × LI × Bool → Prop) (steps2 : LI) (l6181 : (List Tree)) (l6182 : LI) : Prop :=
  K ((Tree.node (steps.getD ((0 : Int)).toNat (0 : Int)) l6181 l6182), steps2, true)
def VC61_l1 (R : TG → Int → LI → (Tree × LI × Bool → Prop) → Prop) (g : TG) (steps : LI) (K : Tree × LI × Bool → Prop) (steps2 : LI) (v71 : Int) (l6181 : (List Tree)) (l6182 : LI) (X1 : LI × Int × (List Tree) × LI → Prop) : Prop :=
  (((decide (v71 < (((g.2.2.2.getD ((steps.getD ((0 : Int)).toNat (0 : Int))).toNat ((0 : Int), ([] : LI))).2).length : Int))) = true → (inIdx v71 ((g.2.2.2.getD ((steps.getD ((0 : Int)).toNat (0 : Int))).toNat ((0 : Int), ([] : LI))).2).length ∧ R g (((g.2.2.2.getD ((steps.getD ((0 : Int)).toNat (0 : Int))).toNat ((0 : Int), ([] : LI))).2).getD (v71).toNat (0 : Int)) steps2 (fun (ret79v : Tree × LI × Bool) => (((!ret79v.2.2) = true → K ((Tree.node (0 : Int) ([] : (List Tree)) ([] : LI)), ([] : LI), false)) ∧ ((!ret79v.2.2) = false → (roomN (l6181.length + [(Tree.node ret79v.1.rule ret79v.1.kids ret79v.1.word)].length) ∧ (roomN (l6182.length + ret79v.1.word.length) ∧ (InR (v71 + (1 : Int)) ∧ X1 (ret79v.2.1, (v71 + (1 : Int)), (l6181 ++ [(Tree.node ret79v.1.rule ret79v.1.kids ret79v.1.word)]), (l6182 ++ ret79v.1.word)))))))))) ∧ ((decide (v71 < (((g.2.2.2.getD ((steps.getD ((0 : Int)).toNat (0 : Int))).toNat ((0 : Int), ([] : LI))).2).length : Int))) = false → VC61_k1 steps K steps2 l6181 l6182))
def VC61 (R : TG → Int → LI → (Tree × LI × Bool → Prop) → Prop) (g : TG) (sign : Int) (steps : LI) (K : Tree × LI × Bool → Prop) : Prop :=
  (((decide (sign < g.1)) = true → K ((Tree.node (-1 : Int) ([] : (List Tree)) [sign]), steps, true)) ∧ ((decide (sign < g.1)) = false → (((decide ((steps.length : Int) = (0 : Int))) = false → inIdx (0 : Int) steps.length) ∧ (((decide ((steps.length : Int) = (0 : Int))) || (decide ((steps.getD ((0 : Int)).toNat (0 : Int)) < (0 : Int)))) = false → inIdx (0 : Int) steps.length) ∧ ((((decide ((steps.length : Int) = (0 : Int))) || (decide ((steps.getD ((0 : Int)).toNat (0 : Int)) < (0 : Int)))) || (decide ((g.2.2.2.length : Int) ≤ (steps.getD ((0 : Int)).toNat (0 : Int))))) = false → inIdx (0 : Int) steps.length) ∧ ((((decide ((steps.length : Int) = (0 : Int))) || (decide ((steps.getD ((0 : Int)).toNat (0 : Int)) < (0 : Int)))) || (decide ((g.2.2.2.length : Int) ≤ (steps.getD ((0 : Int)).toNat (0 : Int))))) = false → inIdx (steps.getD ((0 : Int)).toNat (0 : Int)) g.2.2.2.length) ∧ ((((decide ((steps.length : Int) = (0 : Int))) || (decide ((steps.getD ((0 : Int)).toNat (0 : Int)) < (0 : Int)))) || (decide ((g.2.2.2.length : Int) ≤ (steps.getD ((0 : Int)).toNat (0 : Int))))) = false → InR (sign - g.1)) ∧ ((((((decide ((steps.length : Int) = (0 : Int))) || (decide ((steps.getD ((0 : Int)).toNat (0 : Int)) < (0 : Int)))) || (decide ((g.2.2.2.length : Int) ≤ (steps.getD ((0 : Int)).toNat (0 : Int))))) || (!decide ((g.2.2.2.getD ((steps.getD ((0 : Int)).toNat (0 : Int))).toNat ((0 : Int), ([] : LI))).1 = (sign - g.1)))) = true → K ((Tree.node (0 : Int) ([] : (List Tree)) ([] : LI)), ([] : LI), false)) ∧ (((((decide ((steps.length : Int) = (0 : Int))) || (decide ((steps.getD ((0 : Int)).toNat (0 : Int)) < (0 : Int)))) || (decide ((g.2.2.2.length : Int) ≤ (steps.getD ((0 : Int)).toNat (0 : Int))))) || (!decide ((g.2.2.2.getD ((steps.getD ((0 : Int)).toNat (0 : Int))).toNat ((0 : Int), ([] : LI))).1 = (sign - g.1)))) = false → (inIdx (0 : Int) steps.length ∧ ((0 ≤ (1 : Int) ∧ (1 : Int) ≤ (steps.length : Int)) ∧ (inIdx (steps.getD ((0 : Int)).toNat (0 : Int)) g.2.2.2.length ∧ Loop (σ := LI × Int × (List Tree) × LI) (fun s X => VC61_l1 R g steps K s.1 s.2.1 s.2.2.1 s.2.2.2 X) ((steps.drop ((1 : Int)).toNat), (0 : Int), ([] : List Tree), ([] : List Int))))))))))
set_option maxHeartbeats 4000000 in
theorem link61 (R : TG → Int → LI → (Tree × LI × Bool → Prop) → Prop) (hR : ∀ (x0 : TG) (x1 : Int) (x2 : LI) (K : Tree × LI × Bool → Prop), R x0 x1 x2 K → ACalls Try.prog 61 [toV1 tG x0, toV1 tI x1, toV1 (.sl tI) x2] (fun res => ∃ y, res = (fun y => [toV1 .tr y.1, toV1 (.sl tI) y.2.1, toV1 .bool y.2.2]) y ∧ K y)) (g : TG) (sign : Int) (steps : LI) (K : Tree × LI × Bool → Prop) (h : VC61 R g sign steps K) : ACalls Try.prog 61 [toV1 tG g, toV1 tI sign, toV1 (.sl tI) steps] (fun res => ∃ y, res = (fun y => [toV1 .tr y.1, toV1 (.sl tI) y.2.1, toV1 .bool y.2.2]) y ∧ K y) := by
 refine acalls_of_aw [.tr, (.sl tI), .bool] [.c 6 102, .t 7, .t 8] Try.func61 rfl rfl rfl ?_
 unfold VC61 at h
 refine srn 4 ⟨102, [sI 1 sign, s1 2 (.pS steps), sp 3 3, sp 6 6], [e61_0 g, e61_4]⟩ (by kernel_rfl) rfl ?_
 refine aw_seq ?_
 refine srn 4 ⟨102, [sI 1 sign, s1 2 (.pS steps), sp 3 3, sp 6 6, sB 18 (decide (sign < g.1))], [e61_0 g, e61_4]⟩ (by kernel_rfl) rfl ?_
 refine aw_cond (b := (decide (sign < g.1))) (by kernel_rfl) (fun hb => ?_) (fun hb => ?_)
 ·have h := h.1 hb
  refine srn 7 ⟨102, [sp 6 6, s1 7 (.pS steps), sB 8 true], [hB 6 [.pI (-1 : Int), .nils, .own 20], hA 20 3 tI [sign]]⟩ (by kernel_rfl) rfl ?_
  refine aw_conv [.freeze 20] (st' := (⟨102, [sp 6 6, s1 7 (.pS steps), sB 8 true], [hB 6 [.pI (-1 : Int), .nils, .pS [sign]]]⟩ : St)) (by kernel_rfl) ?_
  refine aw_ret ?_
  refine thenQ_r ?_
  exact retQ_r (ob := Ts 3 True) _ (by kernel_rfl) (tsI 3 trivial) h
 ·have h := h.2 hb
  refine aw_skip ?_
  refine thenQ_n ?_
  refine aw_seq ?_
  refine aw_seq ?_
  refine awd_begin [] (by kernel_rfl) ?_
  obtain ⟨o1, o2, o3, o4, o5, h⟩ := h
  refine drq (by kernel_rfl) [0, 1, 2, 3, 4, 5, 6, 7, 8, 9, 10, 11, 12, 13, 14, 15, 16, 17, 18, 19, 20, 21, 22, 23, 24, 25, 26, 27, 28, 29, 30, 31, 32] (ob := (Ts 4 (((decide ((steps.length : Int) = (0 : Int))) = false → True) ∧ ((decide ((steps.length : Int) = (0 : Int))) = false → inIdx (0 : Int) steps.length) ∧ Ti 2 ((decide ((steps.length : Int) = (0 : Int))) = false → True) (Ts 2 ((((decide ((steps.length : Int) = (0 : Int))) || (decide ((steps.getD ((0 : Int)).toNat (0 : Int)) < (0 : Int)))) = false → True) ∧ (((decide ((steps.length : Int) = (0 : Int))) || (decide ((steps.getD ((0 : Int)).toNat (0 : Int)) < (0 : Int)))) = false → inIdx (0 : Int) steps.length) ∧ Ti 5 (((decide ((steps.length : Int) = (0 : Int))) || (decide ((steps.getD ((0 : Int)).toNat (0 : Int)) < (0 : Int)))) = false → True) (Ts 2 (Ti 3 ((((decide ((steps.length : Int) = (0 : Int))) || (decide ((steps.getD ((0 : Int)).toNat (0 : Int)) < (0 : Int)))) || (decide ((g.2.2.2.length : Int) ≤ (steps.getD ((0 : Int)).toNat (0 : Int))))) = false → True) (((((decide ((steps.length : Int) = (0 : Int))) || (decide ((steps.getD ((0 : Int)).toNat (0 : Int)) < (0 : Int)))) || (decide ((g.2.2.2.length : Int) ≤ (steps.getD ((0 : Int)).toNat (0 : Int))))) = false → inIdx (0 : Int) steps.length) ∧ ((((decide ((steps.length : Int) = (0 : Int))) || (decide ((steps.getD ((0 : Int)).toNat (0 : Int)) < (0 : Int)))) || (decide ((g.2.2.2.length : Int) ≤ (steps.getD ((0 : Int)).toNat (0 : Int))))) = false → True) ∧ ((((decide ((steps.length : Int) = (0 : Int))) || (decide ((steps.getD ((0 : Int)).toNat (0 : Int)) < (0 : Int)))) || (decide ((g.2.2.2.length : Int) ≤ (steps.getD ((0 : Int)).toNat (0 : Int))))) = false → inIdx (steps.getD ((0 : Int)).toNat (0 : Int)) g.2.2.2.length) ∧ Ti 5 ((((decide ((steps.length : Int) = (0 : Int))) || (decide ((steps.getD ((0 : Int)).toNat (0 : Int)) < (0 : Int)))) || (decide ((g.2.2.2.length : Int) ≤ (steps.getD ((0 : Int)).toNat (0 : Int))))) = false → True) (((((decide ((steps.length : Int) = (0 : Int))) || (decide ((steps.getD ((0 : Int)).toNat (0 : Int)) < (0 : Int)))) || (decide ((g.2.2.2.length : Int) ≤ (steps.getD ((0 : Int)).toNat (0 : Int))))) = false → InR (sign - g.1)) ∧ ((((decide ((steps.length : Int) = (0 : Int))) || (decide ((steps.getD ((0 : Int)).toNat (0 : Int)) < (0 : Int)))) || (decide ((g.2.2.2.length : Int) ≤ (steps.getD ((0 : Int)).toNat (0 : Int))))) = false → True) ∧ Ts 1 True))))))))) (done' := [32, 31, 30, 29, 28, 27, 26, 25, 24, 23, 22, 21, 20, 19, 18, 17, 16, 15, 14, 13, 12, 11, 10, 9, 8, 7, 6, 5, 4, 3, 2, 1, 0]) (st' := (⟨102, [s1 2 (.pS steps), sp 3 3, sp 6 6, sB 55 ((((decide ((steps.length : Int) = (0 : Int))) || (decide ((steps.getD ((0 : Int)).toNat (0 : Int)) < (0 : Int)))) || (decide ((g.2.2.2.length : Int) ≤ (steps.getD ((0 : Int)).toNat (0 : Int))))) || (!decide ((g.2.2.2.getD ((steps.getD ((0 : Int)).toNat (0 : Int))).toNat ((0 : Int), ([] : LI))).1 = (sign - g.1))))], [e61_0 g, e61_4]⟩ : St)) (by kernel_rfl) (tsI 4 (⟨(fun _ => trivial), ⟨o1, tiI 2 (fun _ => trivial) (tsI 2 (⟨(fun _ => trivial), ⟨o2, tiI 5 (fun _ => trivial) (tsI 2 (tiI 3 (fun _ => trivial) (⟨o3, ⟨(fun _ => trivial), ⟨o4, tiI 5 (fun _ => trivial) (⟨o5, ⟨(fun _ => trivial), tsI 1 trivial⟩⟩)⟩⟩⟩)))⟩⟩))⟩⟩)) ?_
  refine awd_done (by kernel_rfl) ?_
  refine thenQ_n ?_
  refine aw_cond (b := ((((decide ((steps.length : Int) = (0 : Int))) || (decide ((steps.getD ((0 : Int)).toNat (0 : Int)) < (0 : Int)))) || (decide ((g.2.2.2.length : Int) ≤ (steps.getD ((0 : Int)).toNat (0 : Int))))) || (!decide ((g.2.2.2.getD ((steps.getD ((0 : Int)).toNat (0 : Int))).toNat ((0 : Int), ([] : LI))).1 = (sign - g.1))))) (by kernel_rfl) (fun hb => ?_) (fun hb => ?_)
  ·have h := h.1 hb
   refine srn 4 ⟨102, [sp 6 6, s1 7 (.nils), sB 8 false], [e61_4]⟩ (by kernel_rfl) rfl ?_
   refine aw_ret ?_
   refine thenQ_r ?_
   exact retQ_r (ob := Ts 3 True) _ (by kernel_rfl) (tsI 3 trivial) h
  ·have h := h.2 hb
   refine aw_skip ?_
   refine thenQ_n ?_
   refine sr ?_
   obtain ⟨o1, h⟩ := h
   refine rq 6 (ob := (Ts 1 (inIdx (0 : Int) steps.length ∧ Ts 4 True))) (st' := (⟨102, [s1 2 (.pS steps), sp 3 3, sp 6 6, sp 9 9], [e61_0 g, e61_4, e61_9 steps]⟩ : St)) (by kernel_rfl) (tsI 1 ⟨o1, tsI 4 trivial⟩) ?_
   refine nsr ?_
   obtain ⟨o1, h⟩ := h
   refine rq 3 (ob := (Ts 1 ((0 ≤ (1 : Int) ∧ (1 : Int) ≤ (steps.length : Int)) ∧ Ts 1 True))) (st' := (⟨102, [s1 2 (.pS (steps.drop ((1 : Int)).toNat)), sp 3 3, sp 6 6, sp 9 9], [e61_0 g, e61_4, e61_9 steps]⟩ : St)) (by kernel_rfl) (tsI 1 ⟨o1, tsI 1 trivial⟩) ?_
   refine nn ?_
   refine aw_seq ?_
   refine sr ?_
   obtain ⟨o1, h⟩ := h
   refine rq 9 (ob := (Ts 4 (inIdx (steps.getD ((0 : Int)).toNat (0 : Int)) g.2.2.2.length ∧ Ts 4 True))) (st' := (⟨102, [s1 2 (.pS (steps.drop ((1 : Int)).toNat)), sp 3 3, sp 6 6, sp 9 9, e61_2 g steps, e61_1 g steps, sI 71 (0 : Int)], [e61_0 g, e61_4, e61_9 steps]⟩ : St)) (by kernel_rfl) (tsI 4 ⟨o1, tsI 4 trivial⟩) ?_
   refine nn ?_
   refine withJoin (σ := LI × (List Tree) × LI) (fun s => (⟨102, [s1 2 (.pS s.1), sp 6 6, sp 9 9], [e61_4, e61_3 steps, hA 6181 102 .tr s.2.1, hA 6182 3 tI s.2.2]⟩ : St)) (fun s => VC61_k1 steps K s.1 s.2.1 s.2.2) (fun s h => ?_) (fun rest1 => ?_)
   ·obtain ⟨steps2, l6181, l6182⟩ := s
    have h : VC61_k1 steps K steps2 l6181 l6182 := h
    unfold VC61_k1 at h
    refine thenQ_n ?_
    refine srn 5 ⟨102, [sp 6 6, s1 7 (.pS steps2), sB 8 true], [hB 6 [.pI (steps.getD ((0 : Int)).toNat (0 : Int)), .own 6181, .own 6182], hA 6181 102 .tr l6181, e61_6 l6182]⟩ (by kernel_rfl) rfl ?_
    refine aw_conv [.freeze 6181, .freeze 6182] (st' := (⟨102, [sp 6 6, s1 7 (.pS steps2), sB 8 true], [hB 6 [.pI (steps.getD ((0 : Int)).toNat (0 : Int)), .p (.sl .tr) l6181, .pS l6182]]⟩ : St)) (by kernel_rfl) ?_
    refine aw_ret ?_
    exact retQ_r (ob := Ts 3 True) _ (by kernel_rfl) (tsI 3 trivial) h
   ·refine aw_block ?_
    refine aw_conv [.nilOwnB 9 1 6181 102 .tr, .nilOwnB 9 2 6182 3 tI, .prune [2, 3, 6, 9, 69, 70, 71] [3, 6, 9, 6181, 6182]] (st' := (⟨102, [s1 2 (.pS (steps.drop ((1 : Int)).toNat)), sp 3 3, sp 6 6, sp 9 9, e61_2 g steps, e61_1 g steps, sI 71 (0 : Int)], [e61_0 g, e61_4, e61_3 steps, hA 6181 102 .tr ([] : List Tree), hA 6182 3 tI ([] : List Int)]⟩ : St)) (by kernel_rfl) ?_
    refine aw_loop (σ := LI × Int × (List Tree) × LI) (fun s => (⟨102, [s1 2 (.pS s.1), sp 3 3, sp 6 6, sp 9 9, e61_2 g steps, e61_1 g steps, sI 71 s.2.1], [e61_0 g, e61_4, e61_3 steps, hA 6181 102 .tr s.2.2.1, hA 6182 3 tI s.2.2.2]⟩ : St)) (fun s X => VC61_l1 R g steps K s.1 s.2.1 s.2.2.1 s.2.2.2 X) (s0 := ((steps.drop ((1 : Int)).toNat), (0 : Int), ([] : List Tree), ([] : List Int))) (fun s X1 h => ?_) h
    obtain ⟨steps2, v71, l6181, l6182⟩ := s
    have h : VC61_l1 R g steps K steps2 v71 l6181 l6182 X1 := h
    unfold VC61_l1 at h
    refine srn 1 ⟨102, [s1 2 (.pS steps2), sp 3 3, sp 6 6, sp 9 9, e61_2 g steps, e61_1 g steps, sI 71 v71, sB 72 (decide (v71 < (((g.2.2.2.getD ((steps.getD ((0 : Int)).toNat (0 : Int))).toNat ((0 : Int), ([] : LI))).2).length : Int)))], [e61_0 g, e61_4, e61_3 steps, hA 6181 102 .tr l6181, e61_6 l6182]⟩ (by kernel_rfl) rfl ?_
    refine aw_seq ?_
    refine aw_cond (b := (decide (v71 < (((g.2.2.2.getD ((steps.getD ((0 : Int)).toNat (0 : Int))).toNat ((0 : Int), ([] : LI))).2).length : Int)))) (by kernel_rfl) (fun hb => ?_) (fun hb => ?_)
    ·have h := h.1 hb
     refine aw_skip ?_
     refine thenQ_n ?_
     refine aw_seq ?_
     refine aw_block ?_
     refine sr ?_
     obtain ⟨o1, h⟩ := h
     refine rq 3 (ob := (inIdx v71 ((g.2.2.2.getD ((steps.getD ((0 : Int)).toNat (0 : Int))).toNat ((0 : Int), ([] : LI))).2).length ∧ Ts 2 True)) (st' := (⟨102, [s1 2 (.pS steps2), sp 3 3, sp 6 6, sp 9 9, sI 11 (((g.2.2.2.getD ((steps.getD ((0 : Int)).toNat (0 : Int))).toNat ((0 : Int), ([] : LI))).2).getD (v71).toNat (0 : Int)), e61_2 g steps, e61_1 g steps, sI 71 v71], [e61_0 g, e61_4, e61_3 steps, hA 6181 102 .tr l6181, e61_6 l6182]⟩ : St)) (by kernel_rfl) (⟨o1, tsI 2 trivial⟩) ?_
     refine nsr ?_
     refine rqT 3 ⟨102, [sp 3 3, sp 6 6, sp 9 9, e61_2 g steps, e61_1 g steps, sI 71 v71, sA 76 [.pI g.1, .pI g.2.1, .pI g.2.2.1, .p (.sl tR) g.2.2.2], sI 77 (((g.2.2.2.getD ((steps.getD ((0 : Int)).toNat (0 : Int))).toNat ((0 : Int), ([] : LI))).2).getD (v71).toNat (0 : Int)), s1 78 (.pS steps2)], [e61_0 g, e61_4, e61_3 steps, hA 6181 102 .tr l6181, e61_6 l6182]⟩ (by kernel_rfl) ?_
     refine lcq (d := 79) [.d tG, .d tI, .d (.sl tI)] (fun ret79v => (⟨102, [sp 3 3, sp 6 6, sp 9 9, e61_2 g steps, e61_1 g steps, sI 71 v71, (79, [], .tup [.agg [.pI ret79v.1.rule, .p (.sl .tr) ret79v.1.kids, .pS ret79v.1.word], .c (.pS ret79v.2.1), .c (.pB ret79v.2.2)])], [e61_0 g, e61_4, e61_3 steps, hA 6181 102 .tr l6181, e61_6 l6182]⟩ : St)) (by kernel_rfl) Try.call61 (fun _ => by kernel_rfl) (hR g (((g.2.2.2.getD ((steps.getD ((0 : Int)).toNat (0 : Int))).toNat ((0 : Int), ([] : LI))).2).getD (v71).toNat (0 : Int)) steps2 _ h) (fun ret79v h => ?_)
     refine rqT 8 ⟨102, [sp 3 3, sp 6 6, sp 9 9, sp 12 12, s1 13 (.pS ret79v.2.1), sB 14 ret79v.2.2, e61_2 g steps, e61_1 g steps, sI 71 v71], [e61_0 g, e61_4, e61_3 steps, e61_7 ret79v, hA 6181 102 .tr l6181, e61_6 l6182]⟩ (by kernel_rfl) ?_
     refine nn ?_
     refine aw_seq ?_
     refine srn 2 ⟨102, [sp 3 3, sp 6 6, sp 9 9, sp 12 12, s1 13 (.pS ret79v.2.1), e61_2 g steps, e61_1 g steps, sI 71 v71, sB 84 (!ret79v.2.2)], [e61_0 g, e61_4, e61_3 steps, e61_7 ret79v, hA 6181 102 .tr l6181, e61_6 l6182]⟩ (by kernel_rfl) rfl ?_
     refine aw_cond (b := (!ret79v.2.2)) (by kernel_rfl) (fun hb => ?_) (fun hb => ?_)
     ·have h := h.1 hb
      refine srn 4 ⟨102, [sp 6 6, s1 7 (.nils), sB 8 false], [e61_4]⟩ (by kernel_rfl) rfl ?_
      refine aw_ret ?_
      refine thenQ_r ?_
      refine blockQ_r ?_
      refine thenQ_r ?_
      refine thenQ_r ?_
      refine blockQ_r ?_
      refine thenQ_r ?_
      exact retQ_r (ob := Ts 3 True) _ (by kernel_rfl) (tsI 3 trivial) h
     ·have h := h.2 hb
      refine aw_skip ?_
      refine thenQ_n ?_
      refine sr ?_
      obtain ⟨o1, h⟩ := h
      refine rq 7 (ob := (Ts 4 (roomN (l6181.length + [(Tree.node ret79v.1.rule ret79v.1.kids ret79v.1.word)].length) ∧ Ts 2 True))) (st' := (⟨102, [sp 3 3, sp 6 6, sp 9 9, sp 12 12, s1 13 (.pS ret79v.2.1), e61_2 g steps, e61_1 g steps, sI 71 v71], [e61_0 g, e61_4, hB 9 [.pI (steps.getD ((0 : Int)).toNat (0 : Int)), .own 90, .own 6182], e61_7 ret79v, e61_5 l6181 ret79v, e61_6 l6182]⟩ : St)) (by kernel_rfl) (tsI 4 ⟨o1, tsI 2 trivial⟩) ?_
      refine nsr ?_
      obtain ⟨o1, h⟩ := h
      refine rq 7 (ob := (Ts 4 (roomN (l6182.length + ret79v.1.word.length) ∧ Ts 2 True))) (st' := (⟨102, [sp 3 3, sp 6 6, sp 9 9, s1 13 (.pS ret79v.2.1), e61_2 g steps, e61_1 g steps, sI 71 v71], [e61_0 g, e61_4, e61_8 steps, e61_5 l6181 ret79v, hA 96 3 tI (l6182 ++ ret79v.1.word)]⟩ : St)) (by kernel_rfl) (tsI 4 ⟨o1, tsI 2 trivial⟩) ?_
      refine nn ?_
      refine aw_region ?_
      refine rqT 2 ⟨102, [s1 2 (.pS ret79v.2.1), sp 3 3, sp 6 6, sp 9 9, e61_2 g steps, e61_1 g steps, sI 71 v71], [e61_0 g, e61_4, e61_8 steps, e61_5 l6181 ret79v, hA 96 3 tI (l6182 ++ ret79v.1.word)]⟩ (by kernel_rfl) ?_
      refine awl_nil ?_
      refine blockQ_n ?_
      refine thenQ_n ?_
      refine aw_region ?_
      obtain ⟨o1, h⟩ := h
      refine rq 2 (ob := (InR (v71 + (1 : Int)) ∧ Ts 1 True)) (st' := (⟨102, [s1 2 (.pS ret79v.2.1), sp 3 3, sp 6 6, sp 9 9, e61_2 g steps, e61_1 g steps, sI 71 (v71 + (1 : Int))], [e61_0 g, e61_4, e61_8 steps, e61_5 l6181 ret79v, hA 96 3 tI (l6182 ++ ret79v.1.word)]⟩ : St)) (by kernel_rfl) (⟨o1, tsI 1 trivial⟩) ?_
      refine awl_conv [.ren 90 20090, .ren 96 20096, .ren 20090 6181, .ren 20096 6182] (st' := (⟨102, [s1 2 (.pS ret79v.2.1), sp 3 3, sp 6 6, sp 9 9, e61_2 g steps, e61_1 g steps, sI 71 (v71 + (1 : Int))], [e61_0 g, e61_4, e61_3 steps, hA 6181 102 .tr (l6181 ++ [(Tree.node ret79v.1.rule ret79v.1.kids ret79v.1.word)]), hA 6182 3 tI (l6182 ++ ret79v.1.word)]⟩ : St)) (by kernel_rfl) ?_
      refine awl_nil ?_
      exact thenQ_n ⟨(ret79v.2.1, (v71 + (1 : Int)), (l6181 ++ [(Tree.node ret79v.1.rule ret79v.1.kids ret79v.1.word)]), (l6182 ++ ret79v.1.word)), rfl, h⟩
    ·have h := h.2 hb
     refine cpr (st' := (⟨102, [s1 2 (.pS steps2), sp 6 6, sp 9 9], [e61_4, e61_3 steps, hA 6181 102 .tr l6181, e61_6 l6182]⟩ : St)) (by kernel_rfl) ?_
     refine aw_exit ?_
     refine thenQ_x ?_
     refine thenQ_x ?_
     refine blockQ_hit ?_
     exact rest1 (steps2, l6181, l6182) h
def VC61_it : Nat → TG → Int → LI → (Tree × LI × Bool → Prop) → Prop
  | 0 => fun _ _ _ _ => False
  | n + 1 => fun x0 x1 x2 K => VC61 (VC61_it n) x0 x1 x2 K
def VCr61 (x0 : TG) (x1 : Int) (x2 : LI) (K : Tree × LI × Bool → Prop) : Prop := ∃ n, VC61_it n x0 x1 x2 K
theorem linki61 : ∀ (n : Nat) (x0 : TG) (x1 : Int) (x2 : LI) (K : Tree × LI × Bool → Prop), VC61_it n x0 x1 x2 K → ACalls Try.prog 61 [toV1 tG x0, toV1 tI x1, toV1 (.sl tI) x2] (fun res => ∃ y, res = (fun y => [toV1 .tr y.1, toV1 (.sl tI) y.2.1, toV1 .bool y.2.2]) y ∧ K y)
  | 0, _, _, _, _, h => False.elim h
  | n + 1, x0, x1, x2, K, h => link61 (VC61_it n) (linki61 n) x0 x1 x2 K h
theorem linkr61 (x0 : TG) (x1 : Int) (x2 : LI) (K : Tree × LI × Bool → Prop) (h : VCr61 x0 x1 x2 K) : ACalls Try.prog 61 [toV1 tG x0, toV1 tI x1, toV1 (.sl tI) x2] (fun res => ∃ y, res = (fun y => [toV1 .tr y.1, toV1 (.sl tI) y.2.1, toV1 .bool y.2.2]) y ∧ K y) := by
  obtain ⟨n, h⟩ := h
  exact linki61 n x0 x1 x2 K h
abbrev e30_0 (g : TG) : Nat × Path × Con := hB 2 [.pI g.1, .pI g.2.1, .pI g.2.2.1, .p (.sl tR) g.2.2.2]
abbrev e30_1 (g : TG) : Nat × Path × AV := s1 2 (.ad tG g)
abbrev e30_2 (ret29v : Tree × LI × Bool) : Nat × Path × Con := hB 7 [.pI ret29v.1.rule, .p (.sl .tr) ret29v.1.kids, .pS ret29v.1.word]
-- coppicer/pick.Word
def VC30 (g : TG) (steps : LI) (K : LI × Int → Prop) : Prop :=
  VC51 g (fun (ret11v : Int) => (((!decide (ret11v = (0 : Int))) = true → K (([] : LI), ret11v)) ∧ ((!decide (ret11v = (0 : Int))) = false → (((decide ((60 : Int) < (steps.length : Int))) = true → K (([] : LI), (1 : Int))) ∧ ((decide ((60 : Int) < (steps.length : Int))) = false → VC59 steps (fun (x : Int) (K : Bool → Prop) => VC60 x g K) (fun (ret20v : Bool) => ((ret20v = true → K (([] : LI), (4 : Int))) ∧ (ret20v = false → (InR (g.1 + g.2.2.1) ∧ VCr61 g (g.1 + g.2.2.1) steps (fun (ret29v : Tree × LI × Bool) => ((((!ret29v.2.2) || (decide ((0 : Int) < (ret29v.2.1.length : Int)))) = true → K (([] : LI), (3 : Int))) ∧ (((!ret29v.2.2) || (decide ((0 : Int) < (ret29v.2.1.length : Int)))) = false → (((decide ((60 : Int) < (ret29v.1.word.length : Int))) = true → K (([] : LI), (1 : Int))) ∧ ((decide ((60 : Int) < (ret29v.1.word.length : Int))) = false → K (ret29v.1.word, (0 : Int))))))))))))))))
set_option maxHeartbeats 4000000 in
theorem link30 (g : TG) (steps : LI) (K : LI × Int → Prop) (h : VC30 g steps K) : ACalls Try.prog 30 [toV1 tG g, toV1 (.sl tI) steps] (fun res => ∃ y, res = (fun y => [toV1 (.sl tI) y.1, toV1 tI y.2]) y ∧ K y) := by
 refine acalls_of_aw [(.sl tI), tI] [.t 4, .t 5] Try.func30 rfl rfl rfl ?_
 unfold VC30 at h
 refine srn 3 ⟨46, [s1 1 (.pS steps), sp 2 2], [e30_0 g]⟩ (by kernel_rfl) rfl ?_
 refine aw_seq ?_
 refine sr ?_
 refine rqT 1 ⟨46, [s1 1 (.pS steps), sp 2 2, sA 10 [.pI g.1, .pI g.2.1, .pI g.2.2.1, .p (.sl tR) g.2.2.2]], [e30_0 g]⟩ (by kernel_rfl) ?_
 refine lcq (d := 11) [.d tG] (fun ret11v => (⟨46, [s1 1 (.pS steps), sp 2 2, sI 11 ret11v], [e30_0 g]⟩ : St)) (by kernel_rfl) Try.call51 (fun _ => by kernel_rfl) (link51 g _ h) (fun ret11v h => ?_)
 refine rqT 1 ⟨46, [s1 1 (.pS steps), sp 2 2, sI 6 ret11v], [e30_0 g]⟩ (by kernel_rfl) ?_
 refine nsr ?_
 refine rqT 2 ⟨46, [s1 1 (.pS steps), sp 2 2, sI 6 ret11v, sB 13 (!decide (ret11v = (0 : Int)))], [e30_0 g]⟩ (by kernel_rfl) ?_
 refine nn ?_
 refine aw_cond (b := (!decide (ret11v = (0 : Int)))) (by kernel_rfl) (fun hb => ?_) (fun hb => ?_)
 ·have h := h.1 hb
  refine srn 3 ⟨46, [s1 4 (.nils), sI 5 ret11v], []⟩ (by kernel_rfl) rfl ?_
  refine aw_ret ?_
  refine thenQ_r ?_
  exact retQ_r (ob := Ts 2 True) _ (by kernel_rfl) (tsI 2 trivial) h
 ·have h := h.2 hb
  refine aw_skip ?_
  refine thenQ_n ?_
  refine aw_seq ?_
  refine srn 3 ⟨46, [s1 1 (.pS steps), sp 2 2, sB 17 (decide ((60 : Int) < (steps.length : Int)))], [e30_0 g]⟩ (by kernel_rfl) rfl ?_
  refine aw_cond (b := (decide ((60 : Int) < (steps.length : Int)))) (by kernel_rfl) (fun hb => ?_) (fun hb => ?_)
  ·have h := h.1 hb
   refine srn 2 ⟨46, [s1 4 (.nils), sI 5 (1 : Int)], []⟩ (by kernel_rfl) rfl ?_
   refine aw_ret ?_
   refine thenQ_r ?_
   exact retQ_r (ob := Ts 2 True) _ (by kernel_rfl) (tsI 2 trivial) h
  ·have h := h.2 hb
   refine aw_skip ?_
   refine thenQ_n ?_
   refine aw_seq ?_
   refine sr ?_
   refine rqT 1 ⟨46, [s1 1 (.pS steps), sp 2 2, s1 18 (.pS steps)], [e30_0 g]⟩ (by kernel_rfl) ?_
   refine awl_conv [.freezeB 2 tG] (st' := (⟨46, [s1 1 (.pS steps), e30_1 g, s1 18 (.pS steps)], []⟩ : St)) (by kernel_rfl) ?_
   refine rqT 1 ⟨46, [s1 1 (.pS steps), e30_1 g, s1 18 (.pS steps), s1 19 (.fn 60 [(⟨tG, g⟩ : Dat)])], []⟩ (by kernel_rfl) ?_
   refine lcq (d := 20) [.d (.sl tI), .fn] (fun ret20v => (⟨46, [s1 1 (.pS steps), e30_1 g, sB 20 ret20v], []⟩ : St)) (by kernel_rfl) Try.call59 (fun _ => by kernel_rfl) (link59 steps 60 [(⟨tG, g⟩ : Dat)] (fun (x : Int) (K : Bool → Prop) => VC60 x g K) ⟨Try.call60, fun x K h => link60 x g K h⟩ _ h) (fun ret20v h => ?_)
   refine nn ?_
   refine aw_cond (b := ret20v) (by kernel_rfl) (fun hb => ?_) (fun hb => ?_)
   ·have h := h.1 hb
    refine srn 2 ⟨46, [s1 4 (.nils), sI 5 (4 : Int)], []⟩ (by kernel_rfl) rfl ?_
    refine aw_ret ?_
    refine thenQ_r ?_
    exact retQ_r (ob := Ts 2 True) _ (by kernel_rfl) (tsI 2 trivial) h
   ·have h := h.2 hb
    refine aw_skip ?_
    refine thenQ_n ?_
    refine sr ?_
    obtain ⟨o1, h⟩ := h
    refine rq 7 (ob := (Ts 5 (InR (g.1 + g.2.2.1) ∧ Ts 1 True))) (st' := (⟨46, [sA 22 [.pI g.1, .pI g.2.1, .pI g.2.2.1, .p (.sl tR) g.2.2.2], sI 27 (g.1 + g.2.2.1), s1 28 (.pS steps)], []⟩ : St)) (by kernel_rfl) (tsI 5 ⟨o1, tsI 1 trivial⟩) ?_
    refine lcq (d := 29) [.d tG, .d tI, .d (.sl tI)] (fun ret29v => (⟨46, [(29, [], .tup [.agg [.pI ret29v.1.rule, .p (.sl .tr) ret29v.1.kids, .pS ret29v.1.word], .c (.pS ret29v.2.1), .c (.pB ret29v.2.2)])], []⟩ : St)) (by kernel_rfl) Try.call61 (fun _ => by kernel_rfl) (linkr61 g (g.1 + g.2.2.1) steps _ h) (fun ret29v h => ?_)
    refine rqT 8 ⟨46, [sp 7 7, s1 8 (.pS ret29v.2.1), sB 9 ret29v.2.2], [e30_2 ret29v]⟩ (by kernel_rfl) ?_
    refine nn ?_
    refine aw_seq ?_
    refine sr ?_
    refine rq 7 (ob := (Ts 3 (Ti 3 ((!ret29v.2.2) = false → True) (Ts 1 True)))) (st' := (⟨46, [sp 7 7, sB 39 ((!ret29v.2.2) || (decide ((0 : Int) < (ret29v.2.1.length : Int))))], [e30_2 ret29v]⟩ : St)) (by kernel_rfl) (tsI 3 (tiI 3 (fun _ => trivial) (tsI 1 trivial))) ?_
    refine nn ?_
    refine aw_cond (b := ((!ret29v.2.2) || (decide ((0 : Int) < (ret29v.2.1.length : Int))))) (by kernel_rfl) (fun hb => ?_) (fun hb => ?_)
    ·have h := h.1 hb
     refine srn 2 ⟨46, [s1 4 (.nils), sI 5 (3 : Int)], []⟩ (by kernel_rfl) rfl ?_
     refine aw_ret ?_
     refine thenQ_r ?_
     exact retQ_r (ob := Ts 2 True) _ (by kernel_rfl) (tsI 2 trivial) h
    ·have h := h.2 hb
     refine aw_skip ?_
     refine thenQ_n ?_
     refine aw_seq ?_
     refine srn 4 ⟨46, [sp 7 7, sB 43 (decide ((60 : Int) < (ret29v.1.word.length : Int)))], [e30_2 ret29v]⟩ (by kernel_rfl) rfl ?_
     refine aw_cond (b := (decide ((60 : Int) < (ret29v.1.word.length : Int)))) (by kernel_rfl) (fun hb => ?_) (fun hb => ?_)
     ·have h := h.1 hb
      refine srn 2 ⟨46, [s1 4 (.nils), sI 5 (1 : Int)], []⟩ (by kernel_rfl) rfl ?_
      refine aw_ret ?_
      refine thenQ_r ?_
      exact retQ_r (ob := Ts 2 True) _ (by kernel_rfl) (tsI 2 trivial) h
     ·have h := h.2 hb
      refine aw_skip ?_
      refine thenQ_n ?_
      refine srn 4 ⟨46, [s1 4 (.pS ret29v.1.word), sI 5 (0 : Int)], []⟩ (by kernel_rfl) rfl ?_
      refine aw_ret ?_
      exact retQ_r (ob := Ts 2 True) _ (by kernel_rfl) (tsI 2 trivial) h
-- coppicer/coppicerref.Ints
def VC22_k1 (K : Bool → Prop) : Prop :=
  K true
def VC22_l1 (a : LI) (b : LI) (K : Bool → Prop) (i : Int) (X1 : Int → Prop) : Prop :=
  (((decide (i < (a.length : Int))) = true → (inIdx i a.length ∧ inIdx i b.length ∧ (((!decide ((a.getD (i).toNat (0 : Int)) = (b.getD (i).toNat (0 : Int)))) = true → K false) ∧ ((!decide ((a.getD (i).toNat (0 : Int)) = (b.getD (i).toNat (0 : Int)))) = false → (InR (i + (1 : Int)) ∧ X1 (i + (1 : Int))))))) ∧ ((decide (i < (a.length : Int))) = false → VC22_k1 K))
def VC22 (a : LI) (b : LI) (K : Bool → Prop) : Prop :=
  (((!decide ((a.length : Int) = (b.length : Int))) = true → K false) ∧ ((!decide ((a.length : Int) = (b.length : Int))) = false → Loop (σ := Int) (fun s X => VC22_l1 a b K s X) (0 : Int)))
set_option maxHeartbeats 4000000 in
theorem link22 (a : LI) (b : LI) (K : Bool → Prop) (h : VC22 a b K) : ACalls Try.prog 22 [toV1 (.sl tI) a, toV1 (.sl tI) b] (fun res => ∃ y, res = (fun y => [toV1 .bool y]) y ∧ K y) := by
 refine acalls_of_aw [.bool] [.t 4] Try.func22 rfl rfl rfl ?_
 unfold VC22 at h
 refine srn 1 ⟨26, [s1 0 (.pS a), s1 1 (.pS b)], []⟩ (by kernel_rfl) rfl ?_
 refine aw_seq ?_
 refine srn 5 ⟨26, [s1 0 (.pS a), s1 1 (.pS b), sB 10 (!decide ((a.length : Int) = (b.length : Int)))], []⟩ (by kernel_rfl) rfl ?_
 refine aw_cond (b := (!decide ((a.length : Int) = (b.length : Int)))) (by kernel_rfl) (fun hb => ?_) (fun hb => ?_)
 ·have h := h.1 hb
  refine srn 1 ⟨26, [sB 4 false], []⟩ (by kernel_rfl) rfl ?_
  refine aw_ret ?_
  refine thenQ_r ?_
  exact retQ_r (ob := Ts 1 True) _ (by kernel_rfl) (tsI 1 trivial) h
 ·have h := h.2 hb
  refine aw_skip ?_
  refine thenQ_n ?_
  refine aw_seq ?_
  refine srn 1 ⟨26, [s1 0 (.pS a), s1 1 (.pS b), sI 5 (0 : Int)], []⟩ (by kernel_rfl) rfl ?_
  refine withJoin (σ := Unit) (fun s => (⟨26, [], []⟩ : St)) (fun s => VC22_k1 K) (fun s h => ?_) (fun rest1 => ?_)
  ·have h : VC22_k1 K := h
   unfold VC22_k1 at h
   refine thenQ_n ?_
   refine srn 1 ⟨26, [sB 4 true], []⟩ (by kernel_rfl) rfl ?_
   refine aw_ret ?_
   exact retQ_r (ob := Ts 1 True) _ (by kernel_rfl) (tsI 1 trivial) h
  ·refine aw_block ?_
   refine aw_loop (σ := Int) (fun s => (⟨26, [s1 0 (.pS a), s1 1 (.pS b), sI 5 s], []⟩ : St)) (fun s X => VC22_l1 a b K s X) (s0 := (0 : Int)) (fun i X1 h => ?_) h
   have h : VC22_l1 a b K i X1 := h
   unfold VC22_l1 at h
   refine aw_seq ?_
   refine srn 4 ⟨26, [s1 0 (.pS a), s1 1 (.pS b), sI 5 i, sB 14 (decide (i < (a.length : Int)))], []⟩ (by kernel_rfl) rfl ?_
   refine aw_cond (b := (decide (i < (a.length : Int)))) (by kernel_rfl) (fun hb => ?_) (fun hb => ?_)
   ·have h := h.1 hb
    refine aw_skip ?_
    refine thenQ_n ?_
    refine aw_seq ?_
    refine aw_block ?_
    refine aw_seq ?_
    refine awd_begin [] (by kernel_rfl) ?_
    obtain ⟨o1, o2, h⟩ := h
    refine drq (by kernel_rfl) [0, 1, 2, 3, 4, 5, 6, 7, 8] (ob := (Ts 2 (inIdx i a.length ∧ Ts 3 (inIdx i b.length ∧ Ts 2 True)))) (done' := [8, 7, 6, 5, 4, 3, 2, 1, 0]) (st' := (⟨26, [s1 0 (.pS a), s1 1 (.pS b), sI 5 i, sB 25 (!decide ((a.getD (i).toNat (0 : Int)) = (b.getD (i).toNat (0 : Int))))], []⟩ : St)) (by kernel_rfl) (tsI 2 (⟨o1, tsI 3 ⟨o2, tsI 2 trivial⟩⟩)) ?_
    refine awd_done (by kernel_rfl) ?_
    refine thenQ_n ?_
    refine aw_cond (b := (!decide ((a.getD (i).toNat (0 : Int)) = (b.getD (i).toNat (0 : Int))))) (by kernel_rfl) (fun hb => ?_) (fun hb => ?_)
    ·have h := h.1 hb
     refine srn 1 ⟨26, [sB 4 false], []⟩ (by kernel_rfl) rfl ?_
     refine aw_ret ?_
     refine blockQ_r ?_
     refine thenQ_r ?_
     refine thenQ_r ?_
     refine blockQ_r ?_
     refine thenQ_r ?_
     exact retQ_r (ob := Ts 1 True) _ (by kernel_rfl) (tsI 1 trivial) h
    ·have h := h.2 hb
     refine aw_skip ?_
     refine blockQ_n ?_
     refine thenQ_n ?_
     refine aw_region ?_
     obtain ⟨o1, h⟩ := h
     refine rq 3 (ob := (Ts 1 (InR (i + (1 : Int)) ∧ Ts 1 True))) (st' := (⟨26, [s1 0 (.pS a), s1 1 (.pS b), sI 5 (i + (1 : Int))], []⟩ : St)) (by kernel_rfl) (tsI 1 ⟨o1, tsI 1 trivial⟩) ?_
     refine awl_nil ?_
     exact thenQ_n ⟨(i + (1 : Int)), rfl, h⟩
   ·have h := h.2 hb
    refine cpr (st' := (⟨26, [], []⟩ : St)) (by kernel_rfl) ?_
    refine aw_exit ?_
    refine thenQ_x ?_
    refine thenQ_x ?_
    refine blockQ_hit ?_
    exact rest1 () h
abbrev e8_0 (g : TG) : Nat × Path × Con := hB 2 [.pI g.1, .pI g.2.1, .pI g.2.2.1, .p (.sl tR) g.2.2.2]
abbrev e8_1 (w : LI) : Nat × Path × AV := s1 1 (.pS w)
-- coppicer/coppicerkeep.AheadSteps
def VC8 (g : TG) (w : LI) (K : Bool → Prop) : Prop :=
  VC29 g w (fun (ret12v : LI × Int) => VC21 g w (fun (ret17v : Bool) => (((!ret17v) = true → K (!decide (ret12v.2 = (0 : Int)))) ∧ ((!ret17v) = false → (((!decide (ret12v.2 = (0 : Int))) = true → K ((decide ((ret12v.1.length : Int) = (0 : Int))) && ((decide (ret12v.2 = (3 : Int))) || (decide (ret12v.2 = (5 : Int)))))) ∧ ((!decide (ret12v.2 = (0 : Int))) = false → VC30 g ret12v.1 (fun (ret37v : LI × Int) => gcall (α := Bool) ((!((decide ((60 : Int) < (ret12v.1.length : Int))) && (!decide (ret37v.2 = (0 : Int))))) && (decide (ret37v.2 = (0 : Int)))) (VC22 ret37v.1 w) false (fun (ret53v : Bool) => K (((decide ((60 : Int) < (ret12v.1.length : Int))) && (!decide (ret37v.2 = (0 : Int)))) || ((decide (ret37v.2 = (0 : Int))) && ret53v))))))))))
set_option maxHeartbeats 4000000 in
theorem link8 (g : TG) (w : LI) (K : Bool → Prop) (h : VC8 g w K) : ACalls Try.prog 8 [toV1 tG g, toV1 (.sl tI) w] (fun res => ∃ y, res = (fun y => [toV1 .bool y]) y ∧ K y) := by
 refine acalls_of_aw [.bool] [.t 4] Try.func8 rfl rfl rfl ?_
 unfold VC8 at h
 refine sr ?_
 refine rqT 2 ⟨56, [e8_1 w, sp 2 2], [e8_0 g]⟩ (by kernel_rfl) ?_
 refine nsr ?_
 refine rqT 2 ⟨56, [e8_1 w, sp 2 2, sA 10 [.pI g.1, .pI g.2.1, .pI g.2.2.1, .p (.sl tR) g.2.2.2], s1 11 (.pS w)], [e8_0 g]⟩ (by kernel_rfl) ?_
 refine lcq (d := 12) [.d tG, .d (.sl tI)] (fun ret12v => (⟨56, [e8_1 w, sp 2 2, (12, [], .tup [.c (.pS ret12v.1), .c (.pI ret12v.2)])], [e8_0 g]⟩ : St)) (by kernel_rfl) Try.call29 (fun _ => by kernel_rfl) (link29 g w _ h) (fun ret12v h => ?_)
 refine rqT 5 ⟨56, [e8_1 w, sp 2 2, s1 5 (.pS ret12v.1), sI 6 ret12v.2], [e8_0 g]⟩ (by kernel_rfl) ?_
 refine nn ?_
 refine aw_seq ?_
 refine sr ?_
 refine rqT 2 ⟨56, [e8_1 w, sp 2 2, s1 5 (.pS ret12v.1), sI 6 ret12v.2, sA 15 [.pI g.1, .pI g.2.1, .pI g.2.2.1, .p (.sl tR) g.2.2.2], s1 16 (.pS w)], [e8_0 g]⟩ (by kernel_rfl) ?_
 refine lcq (d := 17) [.d tG, .d (.sl tI)] (fun ret17v => (⟨56, [e8_1 w, sp 2 2, s1 5 (.pS ret12v.1), sI 6 ret12v.2, sB 17 ret17v], [e8_0 g]⟩ : St)) (by kernel_rfl) Try.call21 (fun _ => by kernel_rfl) (link21 g w _ h) (fun ret17v h => ?_)
 refine rqT 1 ⟨56, [e8_1 w, sp 2 2, s1 5 (.pS ret12v.1), sI 6 ret12v.2, sB 18 (!ret17v)], [e8_0 g]⟩ (by kernel_rfl) ?_
 refine nn ?_
 refine aw_cond (b := (!ret17v)) (by kernel_rfl) (fun hb => ?_) (fun hb => ?_)
 ·have h := h.1 hb
  refine srn 3 ⟨56, [sB 4 (!decide (ret12v.2 = (0 : Int)))], []⟩ (by kernel_rfl) rfl ?_
  refine aw_ret ?_
  refine thenQ_r ?_
  exact retQ_r (ob := Ts 1 True) _ (by kernel_rfl) (tsI 1 trivial) h
 ·have h := h.2 hb
  refine aw_skip ?_
  refine thenQ_n ?_
  refine aw_seq ?_
  refine srn 2 ⟨56, [e8_1 w, sp 2 2, s1 5 (.pS ret12v.1), sI 6 ret12v.2, sB 22 (!decide (ret12v.2 = (0 : Int)))], [e8_0 g]⟩ (by kernel_rfl) rfl ?_
  refine aw_cond (b := (!decide (ret12v.2 = (0 : Int)))) (by kernel_rfl) (fun hb => ?_) (fun hb => ?_)
  ·have h := h.1 hb
   refine sr ?_
   refine rq 12 (ob := (Ts 4 (Ti 3 ((decide ((ret12v.1.length : Int) = (0 : Int))) = true → True) (((decide ((ret12v.1.length : Int) = (0 : Int))) = true → ((decide (ret12v.2 = (3 : Int))) = false → True)) ∧ ((decide ((ret12v.1.length : Int) = (0 : Int))) = true → ((decide (ret12v.2 = (3 : Int))) = false → True)) ∧ ((decide ((ret12v.1.length : Int) = (0 : Int))) = true → True) ∧ Ts 2 True)))) (st' := (⟨56, [sB 4 ((decide ((ret12v.1.length : Int) = (0 : Int))) && ((decide (ret12v.2 = (3 : Int))) || (decide (ret12v.2 = (5 : Int)))))], []⟩ : St)) (by kernel_rfl) (tsI 4 (tiI 3 (fun _ => trivial) (tiI 2 (fun _ _ => trivial) ⟨(fun _ => trivial), tsI 2 trivial⟩))) ?_
   refine nn ?_
   refine aw_ret ?_
   refine thenQ_r ?_
   exact retQ_r (ob := Ts 1 True) _ (by kernel_rfl) (tsI 1 trivial) h
  ·have h := h.2 hb
   refine aw_skip ?_
   refine thenQ_n ?_
   refine sr ?_
   refine rqT 2 ⟨56, [e8_1 w, s1 5 (.pS ret12v.1), sA 35 [.pI g.1, .pI g.2.1, .pI g.2.2.1, .p (.sl tR) g.2.2.2], s1 36 (.pS ret12v.1)], []⟩ (by kernel_rfl) ?_
   refine lcq (d := 37) [.d tG, .d (.sl tI)] (fun ret37v => (⟨56, [e8_1 w, s1 5 (.pS ret12v.1), (37, [], .tup [.c (.pS ret37v.1), .c (.pI ret37v.2)])], []⟩ : St)) (by kernel_rfl) Try.call30 (fun _ => by kernel_rfl) (link30 g ret12v.1 _ h) (fun ret37v h => ?_)
   refine rqT 5 ⟨56, [e8_1 w, s1 5 (.pS ret12v.1), s1 7 (.pS ret37v.1), sI 8 ret37v.2], []⟩ (by kernel_rfl) ?_
   refine nsr ?_
   refine rq 13 (ob := (Ts 4 (Ti 2 ((decide ((60 : Int) < (ret12v.1.length : Int))) = true → True) (Ts 2 (Ti 3 (((decide ((60 : Int) < (ret12v.1.length : Int))) && (!decide (ret37v.2 = (0 : Int)))) = false → True) ((((decide ((60 : Int) < (ret12v.1.length : Int))) && (!decide (ret37v.2 = (0 : Int)))) = false → ((decide (ret37v.2 = (0 : Int))) = true → True)) ∧ (((decide ((60 : Int) < (ret12v.1.length : Int))) && (!decide (ret37v.2 = (0 : Int)))) = false → ((decide (ret37v.2 = (0 : Int))) = true → True)) ∧ True)))))) (st' := (⟨56, [sB 47 ((decide ((60 : Int) < (ret12v.1.length : Int))) && (!decide (ret37v.2 = (0 : Int)))), (50, [(47, false)], .v (.c (.pB (decide (ret37v.2 = (0 : Int)))))), (51, [(47, false), (50, true)], .v (.c (.pS ret37v.1))), (52, [(47, false), (50, true)], .v (.c (.pS w)))], []⟩ : St)) (by kernel_rfl) (tsI 4 (tiI 2 (fun _ => trivial) (tsI 2 (tiI 3 (fun _ => trivial) (tiI 2 (fun _ _ => trivial) trivial))))) ?_
   refine awl_callk (p := [(47, false), (50, true)]) (l := [toV1 (.sl tI) ret37v.1, toV1 (.sl tI) w]) (cl := []) false [.d (.sl tI), .d (.sl tI)] [47, 50, 53] [] (fun (ret53v : Bool) => K (((decide ((60 : Int) < (ret12v.1.length : Int))) && (!decide (ret37v.2 = (0 : Int)))) || ((decide (ret37v.2 = (0 : Int))) && ret53v))) (fun ret53v => [toV1 .bool ret53v]) (fun ret53v => (⟨56, [sB 47 ((decide ((60 : Int) < (ret12v.1.length : Int))) && (!decide (ret37v.2 = (0 : Int)))), (50, [(47, false)], .v (.c (.pB (decide (ret37v.2 = (0 : Int)))))), (53, [(47, false), (50, true)], .v (.c (.pB ret53v)))], []⟩ : St)) (by kernel_rfl) rfl (by kernel_rfl) rfl (by kernel_rfl) Try.call22 (by kernel_rfl) (fun ret53v => by kernel_rfl) (fun e => by cases e) (fun hg => link22 ret37v.1 w _ (by have := gcall_T h (show ((!((decide ((60 : Int) < (ret12v.1.length : Int))) && (!decide (ret37v.2 = (0 : Int))))) && (decide (ret37v.2 = (0 : Int)))) = true from hg); exact this)) (fun hg => ⟨false, by have := gcall_F h (show ((!((decide ((60 : Int) < (ret12v.1.length : Int))) && (!decide (ret37v.2 = (0 : Int))))) && (decide (ret37v.2 = (0 : Int)))) = false from hg); exact this⟩) (fun ret53v h => ?_)
   refine rq 3 (ob := ((((decide ((60 : Int) < (ret12v.1.length : Int))) && (!decide (ret37v.2 = (0 : Int)))) = false → True) ∧ Ts 2 True)) (st' := (⟨56, [sB 4 (((decide ((60 : Int) < (ret12v.1.length : Int))) && (!decide (ret37v.2 = (0 : Int)))) || ((decide (ret37v.2 = (0 : Int))) && ret53v))], []⟩ : St)) (by kernel_rfl) (⟨(fun _ => trivial), tsI 2 trivial⟩) ?_
   refine nn ?_
   refine aw_ret ?_
   exact retQ_r (ob := Ts 1 True) _ (by kernel_rfl) (tsI 1 trivial) h
end Dec
