/-
Plain lemmas on loops and lists, no program in sight. Grammars: what a row of signs derives over a stretch of a word (plain Lean, no program in sight). Sets as words of 32 bits. Counting below a bound, sets of names as words: plain Lean. Plain lemmas: association lists, and that few values can differ.
-/
import Derived.Test.YtljlpmfmfcljaaaDecA
set_option linter.unusedSimpArgs false
set_option linter.unusedVariables false
namespace Dec
open Go
theorem loop_count {B:Int→(Int→Prop)→Prop} (n:Nat) (P:Nat→Prop) (h0:P 0)
  (h:∀ i:Nat,i≤n→P i→∀ X:Int→Prop,(i<n→P (i+1)→X ((i:Int)+1))→B (i:Int) X):Loop B 0:=by
 refine Loop.by (fun s=>∃ i:Nat,i≤n∧P i∧s=(i:Int)) (fun s=>((n:Int)-s).toNat) ⟨0,by omega,h0,rfl⟩ ?_
 rintro s ⟨i,hi,hP,rfl⟩ X hX
 exact h i hi hP X fun hlt hP'=>hX _ ⟨i+1,by omega,hP',by simp⟩ (by omega)
theorem getD_lt {α:Type} {l:List α} {i:Nat} (d:α) (h:i<l.length):l.getD i d=l[i]:=by simp [List.getD,h]
theorem getD_mem {α:Type} {l:List α} {i:Nat} {d:α} (h:i<l.length):l.getD i d∈l:=by rw [getD_lt d h];exact List.getElem_mem h
theorem getD_opt {α:Type} {l:List α} {i:Nat} {d:α} (h:i<l.length):l[i]? = some (l.getD i d):=by simp [List.getD,h]
theorem ext_getD {α:Type} (d:α) {a b:List α} (hl:a.length=b.length) (h:∀ i,i<a.length→a.getD i d=b.getD i d):a=b:=by
 apply List.ext_getElem hl
 intro i h1 h2
 have:=h i h1
 rwa [getD_lt d h1,getD_lt d h2] at this
def VCidx {α:Type} (d:α) (s:List α) (F:α→(Bool→Prop)→Prop) (K:Int→Prop):Prop :=
 Loop (σ:=Int) (fun v X=>(((decide (v<(s.length:Int)))=true→(inIdx v s.length∧F (s.getD (v).toNat d) (fun r=>((r=true→K v)∧(r=false→(InR (v+(1:Int))∧X (v+(1:Int))))))))∧((decide (v<(s.length:Int)))=false→K (-1)))) 0
def idxOf {α:Type} (f:α→Bool) (s:List α):Int:=match s.findIdx? f with | some i=>(i:Int) | none=>-1
theorem VCidx_of {α:Type} {d:α} {s:List α} {F:α→(Bool→Prop)→Prop} {K:Int→Prop} (f:α→Bool) (hl:s.length≤4611686018427387904) (hF:∀ x∈s,∀ K':Bool→Prop,K' (f x)→F x K') (h:K (idxOf f s)):VCidx d s F K:=by
 unfold VCidx
 refine loop_count s.length (fun i=>∀ j,j<i→∀ x,s[j]? = some x→f x=false) (by simp) ?_
 intro i hi hP X hX
 refine ⟨fun hb=>?_,fun hb=>?_⟩
 ·simp only [decide_eq_true_eq] at hb
  have hil:i<s.length:=by omega
  refine ⟨⟨by omega,by omega⟩,?_⟩
  simp only [Int.toNat_natCast]
  refine hF _ (getD_mem hil) _ ⟨fun ht=>?_,fun hf=>⟨⟨by omega,by omega⟩,hX hil ?_⟩⟩
  ·have:s.findIdx? f=some i:=by
    rw [List.findIdx?_eq_some_iff_getElem]
    refine ⟨hil,by rw [←getD_lt d hil];exact ht,fun j hj=>?_⟩
    have:=hP j hj _ (List.getElem?_eq_getElem (by omega))
    simp [this]
   unfold idxOf at h
   rw [this] at h
   exact h
  ·intro j hj x hx
   by_cases hji:j<i
   ·exact hP j hji x hx
   ·have:j=i:=by omega
    subst this
    rw [getD_opt (d:=d) hil] at hx
    injection hx with hx
    rw [←hx];exact hf
 ·simp only [decide_eq_false_iff_not] at hb
  have:s.findIdx? f=none:=by
   rw [List.findIdx?_eq_none_iff]
   intro x hx
   obtain ⟨j,hj,rfl⟩:=List.mem_iff_getElem.1 hx
   exact hP j (by omega) _ (List.getElem?_eq_getElem hj)
  unfold idxOf at h
  rw [this] at h
  exact h
theorem idxOf_any {α:Type} (f:α→Bool) (s:List α):decide (0≤idxOf f s)=s.any f:=by
 unfold idxOf
 cases h:s.findIdx? f with
 | none =>
  have:s.any f=false:=by
   rw [List.any_eq_false]
   rw [List.findIdx?_eq_none_iff] at h
   intro x hx
   rw [h x hx];simp
  rw [this];rfl
 | some i =>
  rw [List.findIdx?_eq_some_iff_getElem] at h
  obtain ⟨hi,hf,_⟩:=h
  have:s.any f=true:=List.any_eq_true.2 ⟨_,List.getElem_mem hi,hf⟩
  rw [this]
  simp
theorem VCany_of {α:Type} {d:α} {s:List α} {F:α→(Bool→Prop)→Prop} {K:Bool→Prop} (f:α→Bool) (hl:s.length≤4611686018427387904) (hF:∀ x∈s,∀ K':Bool→Prop,K' (f x)→F x K') (h:K (s.any f)):VCidx d s F (fun r=>K (decide ((0:Int)≤r))):=by
 refine VCidx_of f hl hF ?_
 rw [idxOf_any]
 exact h
end Dec
namespace Cfg
abbrev Rules:=List (Int×List Int)
inductive Row (K:Int) (R:Rules) (w:List Int):List Int→Nat→Nat→Prop
 | nil (i:Nat) (h:i≤w.length):Row K R w [] i i
 | sym (s:Int) (l:List Int) (i j:Nat) (hs:s<K) (hi:w[i]? = some s) (h:Row K R w l (i+1) j):Row K R w (s::l) i j
 | name (s:Int) (l r:List Int) (i m j:Nat) (hs:¬s<K) (hr:(s-K,r)∈R) (h1:Row K R w r i m) (h2:Row K R w l m j):Row K R w (s::l) i j
def Der (K:Int) (R:Rules) (w:List Int) (A:Int) (i j:Nat):Prop:=∃ l,(A,l)∈R∧Row K R w l i j
section
variable {K:Int} {R:Rules} {w:List Int}
theorem Row.le {l:List Int} {i j:Nat} (h:Row K R w l i j):i≤j∧j≤w.length:=by
 induction h with
 | nil i h=>exact ⟨Nat.le_refl _,h⟩
 | sym s l i j hs hi h ih=>omega
 | name s l r i m j hs hr h1 h2 ih1 ih2=>omega
theorem Row.move {w':List Int} {d:Nat} (hw:∀ i x,w[i]? = some x→w'[d+i]? = some x) (hl:d+w.length≤w'.length) {l:List Int} {i j:Nat} (h:Row K R w l i j):Row K R w' l (d+i) (d+j):=by
 induction h with
 | nil i h=>exact .nil _ (by omega)
 | sym s l i j hs hi h ih=>exact .sym s l _ _ hs (hw _ _ hi) (by rw [Nat.add_assoc];exact ih)
 | name s l r i m j hs hr h1 h2 ih1 ih2=>exact .name s l r _ _ _ hs hr ih1 ih2
theorem Row.left {u v:List Int} {l:List Int} {i j:Nat} (h:Row K R u l i j):Row K R (u++v) l i j:=by
 have:=h.move (w':=u++v) (d:=0) (fun i x hx=>by
  rw [Nat.zero_add,List.getElem?_append_left (by
   refine Nat.lt_of_not_le fun hle=>?_
   rw [List.getElem?_eq_none hle] at hx
   cases hx)]
  exact hx) (by simp)
 simpa using this
theorem Row.right {u v:List Int} {l:List Int} {i j:Nat} (h:Row K R v l i j):Row K R (u++v) l (u.length+i) (u.length+j):=by
 refine h.move (fun i x hx=>?_) (by simp)
 rw [List.getElem?_append_right (by omega),Nat.add_sub_cancel_left]
 exact hx
theorem Row.two {A B:Int} {i m j:Nat} (ha:¬A<K) (hb:¬B<K) (h1:Der K R w (A-K) i m) (h2:Der K R w (B-K) m j):Row K R w [A,B] i j:=by
 obtain ⟨r,h3,h4⟩:=h1
 obtain ⟨q,h5,h6⟩:=h2
 exact .name A [B] r i m j ha h3 h4 (.name B [] q m j j hb h5 h6 (.nil j h6.le.2))
theorem Row.word:∀ (l:List Int) (i:Nat),(∀ k x,l[k]? = some x→w[i+k]? = some x∧x<K)→i+l.length≤w.length→Row K R w l i (i+l.length)
 | [],i,_,h=>.nil i (by simpa using h)
 | s::l,i,hw,h=>by
  have h0:=hw 0 s rfl
  have:=Row.word l (i+1) (fun k x hk=>by
   have:=hw (k+1) x (by simpa using hk)
   rw [show i+(k+1)=i+1+k by omega] at this
   exact this) (by simp only [List.length_cons] at h;omega)
  rw [show i+1+l.length=i+(s::l).length by simp only [List.length_cons];omega] at this
  exact .sym s l i _ h0.2 h0.1 this
/-! ### a table of names over stretches -/
def SignS (K:Int) (w:List Int) (S:Int→Nat→Nat→Prop) (s:Int) (i j:Nat):Prop:=if s<K then j=i+1∧w[i]? = some s else S (s-K) i j
def RowS (K:Int) (w:List Int) (S:Int→Nat→Nat→Prop):List Int→Nat→Nat→Prop
 | [],i,j=>i=j
 | s::l,i,j=>∃ m,i≤m∧m≤w.length∧SignS K w S s i m∧RowS K w S l m j
theorem RowS.row {S:Int→Nat→Nat→Prop} (hS:∀ A i j,i≤j→j≤w.length→S A i j→Der K R w A i j):∀ {l:List Int} {i j:Nat},i≤w.length→RowS K w S l i j→Row K R w l i j
 | [],i,j,hi,h=>by
  simp only [RowS] at h
  subst h
  exact .nil i hi
 | s::l,i,j,hi,h=>by
  obtain ⟨m,h1,h2,h3,h4⟩:=h
  have ih:=RowS.row hS h2 h4
  unfold SignS at h3
  by_cases hs:s<K
  ·rw [if_pos hs] at h3
   obtain ⟨rfl,h5⟩:=h3
   exact .sym s l i j hs h5 ih
  ·rw [if_neg hs] at h3
   obtain ⟨r,h5,h6⟩:=hS _ _ _ h1 h2 h3
   exact .name s l r i m j hs h5 h6 ih
theorem RowS.le {S:Int→Nat→Nat→Prop} : ∀ {l:List Int} {i j:Nat},RowS K w S l i j→i≤j
 | [],i,j,h=>by simp only [RowS] at h;omega
 | s::l,i,j,h=>by
  obtain ⟨m,h1,h2,h3,h4⟩:=h
  have:=RowS.le h4
  omega
theorem RowS.mono {S T:Int→Nat→Nat→Prop} (h:∀ A i j,S A i j→T A i j):∀ {l:List Int} {i j:Nat},RowS K w S l i j→RowS K w T l i j
 | [],i,j,h'=>h'
 | s::l,i,j,h'=>by
  obtain ⟨m,h1,h2,h3,h4⟩:=h'
  refine ⟨m,h1,h2,?_,RowS.mono h h4⟩
  unfold SignS at h3 ⊢
  by_cases hs:s<K
  ·rw [if_pos hs] at h3 ⊢;exact h3
  ·rw [if_neg hs] at h3 ⊢;exact h _ _ _ h3
end
end Cfg
namespace Dec
open Go
end Dec
namespace Dec
open Go
end Dec
namespace Dec
open Go
theorem mget_mset {α β:Type} [DecidableEq α] (l:List (α×β)) (x y:α) (v:β):mget (mset l x v) y=if y=x then some v else mget l y:=by
 induction l with
 | nil=>by_cases h:y=x <;> simp [mset,mget,h]
 | cons p r ih =>
  obtain ⟨k,u⟩:=p
  by_cases h:x=k
  ·subst h
   by_cases h2:y=x <;> simp [mset,mget,h2]
  ·by_cases h2:y=k
   ·subst h2
    have:¬y=x:=fun e=>h e.symm
    simp [mset,mget,h,this]
   ·simp only [mset,if_neg h,mget,if_neg h2,ih]
end Dec
