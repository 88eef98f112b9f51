/-
bytes.Equal: a string made of bytes, and its equality. From an argument's reading (the statement's words) to plain data.
-/
import Derived.Test.YtljlpmfmfcljaaaDecP
import Derived.Laws.BytesArg
import Derived.Laws.BytesString
import Derived.Laws.Strings
import Derived.Deep.Slices
import Derived.Carry
set_option linter.unusedSimpArgs false
set_option linter.unusedVariables false
namespace Dec
open Go Go.RowKit
end Dec
namespace Dec
open Go Go.RowKit
section
variable {P:Program} {ops:Array Oper} {Q:Exit→Act→World→Prop}
theorem wpl_val {m:Md} {o:Oper} {rest:List Oper} {a:Act} {w:World} (v:Value) {d:Nat} (hg:o.guard=none) (hd:o.dst=some d) (h:(execOp a.eval o).run P w=.ok (.value v) w) (hr:lwp m P ops Q rest (a.put (some d) v) w):lwp m P ops Q (o::rest) a w:=by
 refine lwp_step fun K hK=>?_
 rw [if_pos (by simp [Region.wanted,hg])]
 refine upon_value' h ?_
 rw [hd]
 exact hK _ _ hr
end
end Dec
namespace Dec
open Go Go.RowKit Go.Deep Go.ChangeShapes Go.WideShapes
section
variable {H:Type} {enc:TypeId×Value→H} {P:Program} {w:World}
def tyOf0 (P:Program):Nat→TypeId→Option Ty
 | 0,_=>none
 | n+1,t=>match P.info? t with
  | none=>none
  | some i=>match P.underlying t with
   | some (.int k)=>if i.size == 1 then some (.int k) else none
   | some .bool=>if i.size == 1 then some .bool else none
   | some (.slice e)=>if i.size == 1 then (match tyOf0 P n e with | some u=>some (.sl u) | none=>none) else none
   | some (.struct fs)=>if treeAt P t fs.toList then none else match fieldTys (tyOf0 P n) fs.toList 0 with
    | some l=>match nest l with
     | some u=>if u.isPr&&i.size == u.size then some u else none
     | none=>none
    | none=>none
   | _=>none
theorem fieldTys_mono {f g:TypeId→Option Ty} (h:∀ t u,f t=some u→g t=some u):∀ {fs:List Field} {off:Nat} {l:List Ty},fieldTys f fs off=some l→fieldTys g fs off=some l
 | [],_,_,hl=>hl
 | x::xs,off,l,hl=>by
  simp only [fieldTys] at hl ⊢
  split at hl
  ·rename_i t ht
   rw [h _ _ ht]
   simp only
   split at hl
   ·rename_i ho
    rw [if_pos ho]
    split at hl
    ·rename_i l' hl'
     rw [fieldTys_mono h hl']
     exact hl
    ·cases hl
   ·cases hl
  ·cases hl
theorem tyOf_of0:∀ (n:Nat) {t:TypeId} {u:Ty},tyOf0 P n t=some u→tyOf P n t=some u
 | 0,t,u,h=>by simp [tyOf0] at h
 | n+1,t,u,h=>by
  simp only [tyOf0] at h
  split at h
  ·cases h
  ·rename_i i hi
   split at h
   ·rename_i hu;simp only [tyOf,hi,hu];exact h
   ·rename_i hu;simp only [tyOf,hi,hu];exact h
   ·rename_i e hu
    simp only [tyOf,hi,hu]
    split at h
    ·rename_i hs
     split at h
     ·rename_i v hv;rw [tyOf_of0 n hv,if_pos hs];exact h
     ·cases h
    ·cases h
   ·rename_i fs hu
    simp only [tyOf,hi,hu]
    split at h
    ·cases h
    rename_i htr
    rw [if_neg htr]
    split at h
    ·rename_i l hl
     rw [fieldTys_mono (fun t u=>tyOf_of0 n) hl]
     exact h
    ·cases h
   ·cases h
theorem tyOf_cells {n:Nat} {t:TypeId} {u:Ty} (h:tyOf P n t=some u):P.cellsOf t=u.size:=by
 obtain ⟨i,hi,hs⟩:=tyOf_info h
 simp [Program.cellsOf,hi,hs]
abbrev Old (w:World):Nat→Prop:=fun b=>b<w.heap.size
theorem wf_range {k:IntKind} {n:Int} (h:(Lit.int k n).wf=true):k.min≤n∧n≤k.max:=by
 simpa [Lit.wf] using h
end
end Dec
