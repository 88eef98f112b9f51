/-
Plain lemmas on loops and lists, no program in sight. Regular expressions as rows of nodes: what a node matches of a word (plain Lean, no program in sight). Plain lemmas: association lists, and that few values can differ. Derivatives of regular expressions in plain Lean (Brzozowski). Position automata in plain Lean (Glushkov): fragments that read what nodes match. Sets as words of 32 bits.
-/
import Derived.Test.YtckghdhnmpnljaaDecA
set_option linter.unusedSimpArgs false
set_option linter.unusedVariables false
namespace Dec
open Go
theorem loop_count {B:Int→(Int→Prop)→Prop} (n:Nat) (P:Nat→Prop) (h0:P 0)
  (h:∀ i:Nat,i≤n→P i→∀ X:Int→Prop,(i<n→P (i+1)→X ((i:Int)+1))→B (i:Int) X):Loop B 0:=by
 refine Loop.by (fun s=>∃ i:Nat,i≤n∧P i∧s=(i:Int)) (fun s=>((n:Int)-s).toNat) ⟨0,by omega,h0,rfl⟩ ?_
 rintro s ⟨i,hi,hP,rfl⟩ X hX
 exact h i hi hP X fun hlt hP'=>hX _ ⟨i+1,by omega,hP',by simp⟩ (by omega)
theorem getD_lt {α:Type} {l:List α} {i:Nat} (d:α) (h:i<l.length):l.getD i d=l[i]:=by simp [List.getD,h]
theorem getD_ge {α:Type} {l:List α} {i:Nat} (d:α) (h:l.length≤i):l.getD i d=d:=by simp [List.getD,h]
theorem getD_mem {α:Type} {l:List α} {i:Nat} {d:α} (h:i<l.length):l.getD i d∈l:=by rw [getD_lt d h];exact List.getElem_mem h
theorem getD_opt {α:Type} {l:List α} {i:Nat} {d:α} (h:i<l.length):l[i]? = some (l.getD i d):=by simp [List.getD,h]
theorem ext_getD {α:Type} (d:α) {a b:List α} (hl:a.length=b.length) (h:∀ i,i<a.length→a.getD i d=b.getD i d):a=b:=by
 apply List.ext_getElem hl
 intro i h1 h2
 have:=h i h1
 rwa [getD_lt d h1,getD_lt d h2] at this
def VCidx {α:Type} (d:α) (s:List α) (F:α→(Bool→Prop)→Prop) (K:Int→Prop):Prop :=
 Loop (σ:=Int) (fun v X=>(((decide (v<(s.length:Int)))=true→(inIdx v s.length∧F (s.getD (v).toNat d) (fun r=>((r=true→K v)∧(r=false→(InR (v+(1:Int))∧X (v+(1:Int))))))))∧((decide (v<(s.length:Int)))=false→K (-1)))) 0
def idxOf {α:Type} (f:α→Bool) (s:List α):Int:=match s.findIdx? f with | some i=>(i:Int) | none=>-1
theorem VCidx_of {α:Type} {d:α} {s:List α} {F:α→(Bool→Prop)→Prop} {K:Int→Prop} (f:α→Bool) (hl:s.length≤4611686018427387904) (hF:∀ x∈s,∀ K':Bool→Prop,K' (f x)→F x K') (h:K (idxOf f s)):VCidx d s F K:=by
 unfold VCidx
 refine loop_count s.length (fun i=>∀ j,j<i→∀ x,s[j]? = some x→f x=false) (by simp) ?_
 intro i hi hP X hX
 refine ⟨fun hb=>?_,fun hb=>?_⟩
 ·simp only [decide_eq_true_eq] at hb
  have hil:i<s.length:=by omega
  refine ⟨⟨by omega,by omega⟩,?_⟩
  simp only [Int.toNat_natCast]
  refine hF _ (getD_mem hil) _ ⟨fun ht=>?_,fun hf=>⟨⟨by omega,by omega⟩,hX hil ?_⟩⟩
  ·have:s.findIdx? f=some i:=by
    rw [List.findIdx?_eq_some_iff_getElem]
    refine ⟨hil,by rw [←getD_lt d hil];exact ht,fun j hj=>?_⟩
    have:=hP j hj _ (List.getElem?_eq_getElem (by omega))
    simp [this]
   unfold idxOf at h
   rw [this] at h
   exact h
  ·intro j hj x hx
   by_cases hji:j<i
   ·exact hP j hji x hx
   ·have:j=i:=by omega
    subst this
    rw [getD_opt (d:=d) hil] at hx
    injection hx with hx
    rw [←hx];exact hf
 ·simp only [decide_eq_false_iff_not] at hb
  have:s.findIdx? f=none:=by
   rw [List.findIdx?_eq_none_iff]
   intro x hx
   obtain ⟨j,hj,rfl⟩:=List.mem_iff_getElem.1 hx
   exact hP j (by omega) _ (List.getElem?_eq_getElem hj)
  unfold idxOf at h
  rw [this] at h
  exact h
theorem idxOf_any {α:Type} (f:α→Bool) (s:List α):decide (0≤idxOf f s)=s.any f:=by
 unfold idxOf
 cases h:s.findIdx? f with
 | none =>
  have:s.any f=false:=by
   rw [List.any_eq_false]
   rw [List.findIdx?_eq_none_iff] at h
   intro x hx
   rw [h x hx];simp
  rw [this];rfl
 | some i =>
  rw [List.findIdx?_eq_some_iff_getElem] at h
  obtain ⟨hi,hf,_⟩:=h
  have:s.any f=true:=List.any_eq_true.2 ⟨_,List.getElem_mem hi,hf⟩
  rw [this]
  simp
theorem VCany_of {α:Type} {d:α} {s:List α} {F:α→(Bool→Prop)→Prop} {K:Bool→Prop} (f:α→Bool) (hl:s.length≤4611686018427387904) (hF:∀ x∈s,∀ K':Bool→Prop,K' (f x)→F x K') (h:K (s.any f)):VCidx d s F (fun r=>K (decide ((0:Int)≤r))):=by
 refine VCidx_of f hl hF ?_
 rw [idxOf_any]
 exact h
theorem wrapU32 {n:Int} (h:0≤n∧n<4294967296):IntKind.wrap .u32 n=n:=by
 simp [IntKind.wrap,IntKind.signed,IntKind.bits];omega
theorem wrapU64 {n:Int} (h:0≤n∧n<18446744073709551616):IntKind.wrap .u64 n=n:=by
 simp [IntKind.wrap,IntKind.signed,IntKind.bits];omega
end Dec
namespace Rex
abbrev Nd:=Int×(Int×Int)
abbrev nd (l:List Nd) (t:Nat):Nd:=l.getD t (0,(0,0))
def OkN (k:Int) (t:Nat) (n:Nd):Prop :=
 n.1=1∨n.1=2∨(n.1=3∧0≤n.2.1∧n.2.1<k)∨((n.1=4∨n.1=5)∧(0≤n.2.1∧n.2.1<(t:Int))∧(0≤n.2.2∧n.2.2<(t:Int)))∨(n.1=6∧0≤n.2.1∧n.2.1<(t:Int))
structure Good (k:Int) (l:List Nd):Prop where
 sym:1≤k∧k≤3
 len:1≤l.length∧l.length≤9
 ok:∀ t,t<l.length→OkN k t (nd l t)
inductive Mat (l:List Nd) (w:List Int):Nat→Nat→Nat→Prop
 | empty (t i:Nat) (h:(nd l t).1=2) (hi:i≤w.length):Mat l w t i i
 | sym (t i:Nat) (h:(nd l t).1=3) (hi:w[i]? = some (nd l t).2.1):Mat l w t i (i+1)
 | cat (t i m j:Nat) (h:(nd l t).1=4) (h1:Mat l w (nd l t).2.1.toNat i m) (h2:Mat l w (nd l t).2.2.toNat m j):Mat l w t i j
 | or1 (t i j:Nat) (h:(nd l t).1=5) (h1:Mat l w (nd l t).2.1.toNat i j):Mat l w t i j
 | or2 (t i j:Nat) (h:(nd l t).1=5) (h1:Mat l w (nd l t).2.2.toNat i j):Mat l w t i j
 | star0 (t i:Nat) (h:(nd l t).1=6) (hi:i≤w.length):Mat l w t i i
 | star1 (t i m j:Nat) (h:(nd l t).1=6) (h1:Mat l w t i m) (h2:Mat l w (nd l t).2.1.toNat m j):Mat l w t i j
section
variable {k:Int} {l:List Nd} {w:List Int}
theorem Mat.le {t i j:Nat} (h:Mat l w t i j):i≤j∧j≤w.length:=by
 induction h with
 | empty t i h hi=>exact ⟨Nat.le_refl _,hi⟩
 | sym t i h hi =>
  refine ⟨by omega,Nat.lt_of_not_le fun hle=>?_⟩
  rw [List.getElem?_eq_none hle] at hi
  cases hi
 | cat t i m j h h1 h2 ih1 ih2=>omega
 | or1 t i j h h1 ih=>exact ih
 | or2 t i j h h1 ih=>exact ih
 | star0 t i h hi=>exact ⟨Nat.le_refl _,hi⟩
 | star1 t i m j h h1 h2 ih1 ih2=>omega
theorem mat_iff {t i j:Nat} : Mat l w t i j ↔
  ((nd l t).1=2∧i=j∧j≤w.length)∨((nd l t).1=3∧j=i+1∧w[i]? = some (nd l t).2.1) ∨
  ((nd l t).1=4∧∃ m,Mat l w (nd l t).2.1.toNat i m∧Mat l w (nd l t).2.2.toNat m j) ∨
  ((nd l t).1=5∧(Mat l w (nd l t).2.1.toNat i j∨Mat l w (nd l t).2.2.toNat i j)) ∨
  ((nd l t).1=6∧((i=j∧j≤w.length)∨∃ m,Mat l w t i m∧Mat l w (nd l t).2.1.toNat m j)):=by
 constructor
 ·intro h
  cases h with
  | empty t i h hi=>exact Or.inl ⟨h,rfl,hi⟩
  | sym t i h hi=>exact Or.inr (Or.inl ⟨h,rfl,hi⟩)
  | cat t i m j h h1 h2=>exact Or.inr (Or.inr (Or.inl ⟨h,m,h1,h2⟩))
  | or1 t i j h h1=>exact Or.inr (Or.inr (Or.inr (Or.inl ⟨h,Or.inl h1⟩)))
  | or2 t i j h h1=>exact Or.inr (Or.inr (Or.inr (Or.inl ⟨h,Or.inr h1⟩)))
  | star0 t i h hi=>exact Or.inr (Or.inr (Or.inr (Or.inr ⟨h,Or.inl ⟨rfl,hi⟩⟩)))
  | star1 t i m j h h1 h2=>exact Or.inr (Or.inr (Or.inr (Or.inr ⟨h,Or.inr ⟨m,h1,h2⟩⟩)))
 ·rintro (⟨h,rfl,hi⟩ | ⟨h,rfl,hi⟩ | ⟨h,m,h1,h2⟩ | ⟨h,h1 | h1⟩ | ⟨h,⟨rfl,hi⟩ | ⟨m,h1,h2⟩⟩)
  ·exact .empty t i h hi
  ·exact .sym t i h hi
  ·exact .cat t i m j h h1 h2
  ·exact .or1 t i j h h1
  ·exact .or2 t i j h h1
  ·exact .star0 t i h hi
  ·exact .star1 t i m j h h1 h2
def St (R:Nat→Nat→Prop):Nat→Nat→Nat→Prop
 | 0,i,j=>i=j
 | k+1,i,j=>St R k i j∨∃ m,St R k i m∧R m j
theorem St.more {R:Nat→Nat→Prop} {i j:Nat} : ∀ {a b:Nat},a≤b→St R a i j→St R b i j
 | a,0,h,hs=>by
   have:a=0:=by omega
   subst this;exact hs
 | a,b+1,h,hs=>by
  by_cases e:a=b+1
  ·rw [←e];exact hs
  ·exact Or.inl (St.more (by omega) hs)
theorem star_left {t:Nat} (hk:(nd l t).1=6) {i m j:Nat} (h1:Mat l w (nd l t).2.1.toNat i m) (h2:Mat l w t m j):Mat l w t i j:=by
 have hi:=h1.le
 generalize ht:t=t' at h2
 induction h2 with
 | empty t i h hi=>subst ht;omega
 | sym t i h hi=>subst ht;omega
 | cat t i m j h h1 h2=>subst ht;omega
 | or1 t i j h h1=>subst ht;omega
 | or2 t i j h h1=>subst ht;omega
 | star0 t' m h hm=>subst ht;exact .star1 _ i i m h (.star0 _ i h (by omega)) h1
 | star1 t' m n j h h3 h4 ih1 ih2 =>
  subst ht
  exact .star1 _ i n j h (ih1 h1 hi rfl) h4
/-! ### more nodes behind -/
theorem nd_app {l e:List Nd} {t:Nat} (h:t<l.length):nd (l++e) t=nd l t:=by
 simp only [nd,List.getD,List.getElem?_append_left h]
theorem refs {k:Int} {t:Nat} {n:Nd} (h:OkN k t n):(n.1=4∨n.1=5→n.2.1.toNat<t∧n.2.2.toNat<t)∧(n.1=6→n.2.1.toNat<t):=by
 unfold OkN at h
 constructor <;> intro h1 <;> omega
theorem mat_app {e:List Nd} (hok:∀ t,t<l.length→OkN k t (nd l t)) {t i j:Nat} (ht:t<l.length):Mat (l++e) w t i j↔Mat l w t i j:=by
 constructor
 ·intro h
  induction h with
  | empty t i h hi=>rw [nd_app ht] at h;exact .empty t i h hi
  | sym t i h hi=>rw [nd_app ht] at h hi;exact .sym t i h hi
  | cat t i m j h h1 h2 ih1 ih2 =>
   rw [nd_app ht] at h h1 h2 ih1 ih2
   have:=(refs (hok t ht)).1 (Or.inl h)
   exact .cat t i m j h (ih1 (by omega)) (ih2 (by omega))
  | or1 t i j h h1 ih =>
   rw [nd_app ht] at h h1 ih
   have:=(refs (hok t ht)).1 (Or.inr h)
   exact .or1 t i j h (ih (by omega))
  | or2 t i j h h1 ih =>
   rw [nd_app ht] at h h1 ih
   have:=(refs (hok t ht)).1 (Or.inr h)
   exact .or2 t i j h (ih (by omega))
  | star0 t i h hi=>rw [nd_app ht] at h;exact .star0 t i h hi
  | star1 t i m j h h1 h2 ih1 ih2 =>
   rw [nd_app ht] at h h2 ih2
   have:=(refs (hok t ht)).2 h
   exact .star1 t i m j h (ih1 ht) (ih2 (by omega))
 ·intro h
  induction h with
  | empty t i h hi=>exact .empty t i (by rw [nd_app ht];exact h) hi
  | sym t i h hi=>exact .sym t i (by rw [nd_app ht];exact h) (by rw [nd_app ht];exact hi)
  | cat t i m j h h1 h2 ih1 ih2 =>
   have:=(refs (hok t ht)).1 (Or.inl h)
   exact .cat t i m j (by rw [nd_app ht];exact h) (by rw [nd_app ht];exact ih1 (by omega)) (by rw [nd_app ht];exact ih2 (by omega))
  | or1 t i j h h1 ih =>
   have:=(refs (hok t ht)).1 (Or.inr h)
   exact .or1 t i j (by rw [nd_app ht];exact h) (by rw [nd_app ht];exact ih (by omega))
  | or2 t i j h h1 ih =>
   have:=(refs (hok t ht)).1 (Or.inr h)
   exact .or2 t i j (by rw [nd_app ht];exact h) (by rw [nd_app ht];exact ih (by omega))
  | star0 t i h hi=>exact .star0 t i (by rw [nd_app ht];exact h) hi
  | star1 t i m j h h1 h2 ih1 ih2 =>
   have:=(refs (hok t ht)).2 h
   exact .star1 t i m j (by rw [nd_app ht];exact h) (ih1 ht) (by rw [nd_app ht];exact ih2 (by omega))
/-! ### the reversal -/
end
end Rex
namespace Dec
open Go
theorem mget_mset {α β:Type} [DecidableEq α] (l:List (α×β)) (x y:α) (v:β):mget (mset l x v) y=if y=x then some v else mget l y:=by
 induction l with
 | nil=>by_cases h:y=x <;> simp [mset,mget,h]
 | cons p r ih =>
  obtain ⟨k,u⟩:=p
  by_cases h:x=k
  ·subst h
   by_cases h2:y=x <;> simp [mset,mget,h2]
  ·by_cases h2:y=k
   ·subst h2
    have:¬y=x:=fun e=>h e.symm
    simp [mset,mget,h,this]
   ·simp only [mset,if_neg h,mget,if_neg h2,ih]
theorem pigeon:∀ (N n:Nat) (f:Nat→Nat),(∀ i,i<n→f i<N)→(∀ i j,i<j→j<n→f i≠f j)→n≤N
 | N,0,_,_,_=>Nat.zero_le _
 | 0,n+1,f,h,_=>absurd (h 0 (by omega)) (by omega)
 | N+1,n+1,f,h,hd=>by
  by_cases hk:∃ k,k<n+1∧f k=N
  ·obtain ⟨k,hk1,hk2⟩:=hk
   have:=pigeon N n (fun i=>f (if i<k then i else i+1)) (fun i hi=>by
    have h1:(if i<k then i else i+1)<n+1:=by split <;> omega
    have h2:(if i<k then i else i+1)≠k:=by split <;> omega
    have h3:=h _ h1
    have h4:f (if i<k then i else i+1)≠N:=by
     intro e
     rw [←hk2] at e
     rcases Nat.lt_or_gt_of_ne h2 with h5 | h5
     ·exact hd _ _ h5 hk1 e
     ·exact hd _ _ h5 h1 e.symm
    show f (if i<k then i else i+1)<N
    omega) (fun i j hij hj=>hd _ _ (by split <;> split <;> omega) (by split <;> omega))
   omega
  ·have:=pigeon N (n+1) f (fun i hi=>by
    have h1:=h i hi
    have h2:f i≠N:=fun e=>hk ⟨i,hi,e⟩
    omega) hd
   omega
end Dec
namespace Rex
open Dec
theorem mat_shift {l:List Nd} {v:List Int} {s:Int} {t i j:Nat} (h:Mat l v t i j):Mat l (s::v) t (i+1) (j+1):=by
 induction h with
 | empty t i h hi=>exact .empty t _ h (by simp;omega)
 | sym t i h hi=>exact .sym t _ h (by simpa using hi)
 | cat t i m j h h1 h2 ih1 ih2=>exact .cat t _ _ _ h ih1 ih2
 | or1 t i j h h1 ih=>exact .or1 t _ _ h ih
 | or2 t i j h h1 ih=>exact .or2 t _ _ h ih
 | star0 t i h hi=>exact .star0 t _ h (by simp;omega)
 | star1 t i m j h h1 h2 ih1 ih2=>exact .star1 t _ _ _ h ih1 ih2
theorem mat_unshift' {l:List Nd} {w:List Int} {t i' j':Nat} (h:Mat l w t i' j'):∀ (s:Int) (v:List Int) (i:Nat),w=s::v→i'=i+1→∃ j,j'=j+1∧Mat l v t i j:=by
 induction h with
 | empty t a h hi=>rintro s v i rfl rfl;exact ⟨i,rfl,.empty t i h (by simp at hi;omega)⟩
 | sym t a h hi=>rintro s v i rfl rfl;exact ⟨i+1,rfl,.sym t i h (by simpa using hi)⟩
 | cat t a m b h h1 h2 ih1 ih2 =>
  intro s v i hw hi
  obtain ⟨m',hm,k1⟩:=ih1 s v i hw hi
  obtain ⟨j',hj,k2⟩:=ih2 s v m' hw hm
  exact ⟨j',hj,.cat t i m' j' h k1 k2⟩
 | or1 t a b h h1 ih =>
  intro s v i hw hi
  obtain ⟨j',hj,k1⟩:=ih s v i hw hi
  exact ⟨j',hj,.or1 t i j' h k1⟩
 | or2 t a b h h1 ih =>
  intro s v i hw hi
  obtain ⟨j',hj,k1⟩:=ih s v i hw hi
  exact ⟨j',hj,.or2 t i j' h k1⟩
 | star0 t a h hi=>rintro s v i rfl rfl;exact ⟨i,rfl,.star0 t i h (by simp at hi;omega)⟩
 | star1 t a m b h h1 h2 ih1 ih2 =>
  intro s v i hw hi
  obtain ⟨m',hm,k1⟩:=ih1 s v i hw hi
  obtain ⟨j',hj,k2⟩:=ih2 s v m' hw hm
  exact ⟨j',hj,.star1 t i m' j' h k1 k2⟩
theorem mat_shift_iff {l:List Nd} {v:List Int} {s:Int} {t i j:Nat} : Mat l (s::v) t (i+1) (j+1)↔Mat l v t i j:=by
 constructor
 ·intro h
  obtain ⟨j',hj,h1⟩:=mat_unshift' h s v i rfl rfl
  have:j'=j:=by omega
  subst this
  exact h1
 ·exact mat_shift
theorem star_first' {l:List Nd} {w:List Int} {t i j:Nat} (h:Mat l w t i j):(nd l t).1=6→i<j→∃ m,i<m∧Mat l w (nd l t).2.1.toNat i m∧Mat l w t m j:=by
 induction h with
 | empty t i h hi=>intro hk;omega
 | sym t i h hi=>intro hk;omega
 | cat t i m j h h1 h2 ih1 ih2=>intro hk;omega
 | or1 t i j h h1 ih=>intro hk;omega
 | or2 t i j h h1 ih=>intro hk;omega
 | star0 t i h hi=>intro _ hlt;omega
 | star1 t i m j h h1 h2 ih1 ih2 =>
  intro hk hlt
  have l1:=h1.le
  have l2:=h2.le
  by_cases him:i<m
  ·obtain ⟨m',k1,k2,k3⟩:=ih1 hk him
   exact ⟨m',k1,k2,.star1 t m' m j h k3 h2⟩
  ·have:i=m:=by omega
   subst this
   exact ⟨j,hlt,h2,.star0 t j h l2.2⟩
def Der (l:List Nd) (s:Int) (out:List Nd) (i d:Nat):Prop:=∀ (v:List Int) (j:Nat),Mat out v d 0 j↔Mat l (s::v) i 0 (j+1)
structure DInv (l:List Nd) (k s:Int) (m:List (Int×Int)) (out:List Nd):Prop where
 ext:∃ e,out=l++e
 ok:∀ t,t<out.length→OkN k t (nd out t)
 der:∀ (i d:Int),mget m i=some d→0≤d∧d<(out.length:Int)∧Der l s out i.toNat d.toNat
variable {l:List Nd} {k s:Int} {m:List (Int×Int)} {out:List Nd}
theorem mat_more {e:List Nd} (hok:∀ t,t<out.length→OkN k t (nd out t)) {v:List Int} {t i j:Nat} (ht:t<out.length):Mat (out++e) v t i j↔Mat out v t i j:=mat_app hok ht
theorem Der.more {e:List Nd} (hok:∀ t,t<out.length→OkN k t (nd out t)) {i d:Nat} (hd:d<out.length) (h:Der l s out i d):Der l s (out++e) i d:=fun v j=>(mat_more hok hd).trans (h v j)
theorem nd_new (out:List Nd) (n:Nd):nd (out++[n]) out.length=n:=by
 simp [nd,List.getD_eq_getElem?_getD]
theorem ok_add (hok:∀ t,t<out.length→OkN k t (nd out t)) {n:Nd} (hn:OkN k out.length n):∀ t,t<(out++[n]).length→OkN k t (nd (out++[n]) t):=by
 intro t ht
 simp only [List.length_append,List.length_singleton] at ht
 by_cases h:t<out.length
 ·rw [nd_app h];exact hok t h
 ·have:t=out.length:=by omega
  subst this
  rw [nd_new];exact hn
theorem DInv.add (h:DInv l k s m out) {n:Nd} (hn:OkN k out.length n):DInv l k s m (out++[n]):=by
 obtain ⟨e,he⟩:=h.ext
 refine ⟨⟨e++[n],by rw [he];simp⟩,ok_add h.ok hn,fun i d hd=>?_⟩
 obtain ⟨h1,h2,h3⟩:=h.der i d hd
 exact ⟨h1,by simp;omega,h3.more h.ok (by omega)⟩
theorem DInv.put (h:DInv l k s m out) {i d:Int} (h1:0≤d) (h2:d<(out.length:Int)) (h3:Der l s out i.toNat d.toNat):DInv l k s (mset m i d) out:=by
 refine ⟨h.ext,h.ok,fun i' d' hd=>?_⟩
 rw [mget_mset] at hd
 split at hd
 ·rename_i he
  injection hd with hd
  subst hd he
  exact ⟨h1,h2,h3⟩
 ·exact h.der i' d' hd
theorem DInv.old (h:DInv l k s m out) (hl:∀ t,t<l.length→OkN k t (nd l t)) {v:List Int} {t i j:Nat} (ht:t<l.length):Mat out v t i j↔Mat l v t i j:=by
 obtain ⟨e,he⟩:=h.ext
 rw [he]
 exact mat_app hl ht
theorem DInv.len (h:DInv l k s m out):l.length≤out.length:=by
 obtain ⟨e,he⟩:=h.ext
 rw [he];simp
theorem left_or {i:Nat} (hk:(nd l i).1=5) {v:List Int} {a j:Nat} : Mat l v i a j↔Mat l v (nd l i).2.1.toNat a j∨Mat l v (nd l i).2.2.toNat a j:=by
 rw [mat_iff]
 constructor
 ·rintro (⟨h,_⟩ | ⟨h,_⟩ | ⟨h,_⟩ | ⟨_,h⟩ | ⟨h,_⟩)
  ·omega
  ·omega
  ·omega
  ·exact h
  ·omega
 ·intro h
  exact .inr (.inr (.inr (.inl ⟨hk,h⟩)))
theorem eps_iff {i:Nat} {w:List Int} : Mat l w i 0 0↔(nd l i).1=2∨((nd l i).1=4∧Mat l w (nd l i).2.1.toNat 0 0∧Mat l w (nd l i).2.2.toNat 0 0)∨((nd l i).1=5∧(Mat l w (nd l i).2.1.toNat 0 0∨Mat l w (nd l i).2.2.toNat 0 0))∨(nd l i).1=6:=by
 constructor
 ·intro h
  rcases mat_iff.1 h with ⟨h,_⟩ | ⟨_,h,_⟩ | ⟨h,m',k1,k2⟩ | ⟨h,h1⟩ | ⟨h,_⟩
  ·exact .inl h
  ·omega
  ·have:=k2.le
   have:m'=0:=by omega
   subst this
   exact .inr (.inl ⟨h,k1,k2⟩)
  ·exact .inr (.inr (.inl ⟨h,h1⟩))
  ·exact .inr (.inr (.inr h))
 ·rintro (h | ⟨h,k1,k2⟩ | ⟨h,h1⟩ | h)
  ·exact .empty _ _ h (by omega)
  ·exact .cat _ _ _ _ h k1 k2
  ·rcases h1 with h1 | h1
   ·exact .or1 _ _ _ h h1
   ·exact .or2 _ _ _ h h1
  ·exact .star0 _ _ h (by omega)
end Rex
namespace Gly
open Dec Rex
inductive Ch (F:Nat→Nat→Prop) (sy:Nat→Int) (w:List Int):Nat→Nat→Nat→Nat→Prop
 | one (q a:Nat) (h:w[a]? = some (sy q)):Ch F sy w q a (a+1) q
 | step (q q2 a b r:Nat) (h:w[a]? = some (sy q)) (hF:F q q2) (h2:Ch F sy w q2 (a+1) b r):Ch F sy w q a b r
variable {F F':Nat→Nat→Prop} {sy sy':Nat→Int} {w:List Int}
theorem Ch.lt {q a b r:Nat} (h:Ch F sy w q a b r):a<b∧b≤w.length:=by
 induction h with
 | one q a h=>exact ⟨by omega,(List.getElem?_eq_some_iff.1 h).1⟩
 | step q q2 a b r h hF h2 ih=>omega
theorem Ch.mono {P:Nat→Prop} (hF:∀ q r,P q→F q r→F' q r∧P r) (hs:∀ q,P q→sy q=sy' q) {q a b r:Nat} (h:Ch F sy w q a b r):P q→Ch F' sy' w q a b r∧P r:=by
 induction h with
 | one q a h=>exact fun hp=>⟨.one q a (by rw [←hs q hp];exact h),hp⟩
 | step q q2 a b r h hf h2 ih =>
  intro hp
  obtain ⟨k1,k2⟩:=hF q q2 hp hf
  obtain ⟨k3,k4⟩:=ih k2
  exact ⟨.step q q2 a b r (by rw [←hs q hp];exact h) k1 k3,k4⟩
theorem Ch.join {q a m b q1 q2 r:Nat} (h:Ch F sy w q a m q1):F q1 q2→Ch F sy w q2 m b r→Ch F sy w q a b r:=by
 induction h with
 | one q a h=>exact fun h1 h2=>.step q q2 a b r h h1 h2
 | step q q3 a m q1 h hf h2 ih=>exact fun h1 h3=>.step q q3 a b r h hf (ih h1 h3)
structure Frag (F:Nat→Nat→Prop) (sy:Nat→Int) (w:List Int) (N N':Nat) (fi la:Nat→Prop) (M:Nat→Nat→Prop):Prop where
 le:N≤N'
 fin:∀ q,fi q→N≤q∧q<N'
 lan:∀ q,la q→N≤q∧q<N'
 fol:∀ q,N≤q→q<N'→∀ r,F q r→N≤r∧r<N'
 acc:∀ a b,a<b→((∃ q r,fi q∧Ch F sy w q a b r∧la r)↔M a b)
variable {N N1 N2:Nat} {fi la fi2 la2:Nat→Prop} {M M2:Nat→Nat→Prop}
theorem Frag.inside (h:Frag F sy w N N1 fi la M) {q a b r:Nat} (hc:Ch F sy w q a b r) (hq:N≤q∧q<N1):N≤r∧r<N1 :=
 (hc.mono (F':=F) (sy':=sy) (P:=fun q=>N≤q∧q<N1) (fun q r hp hf=>⟨hf,h.fol q hp.1 hp.2 r hf⟩) (fun _ _=>rfl) hq).2
theorem Frag.congr (h:Frag F sy w N N1 fi la M) (hF:∀ q r,N≤q→q<N1→(F q r↔F' q r)) (hs:∀ q,N≤q→q<N1→sy q=sy' q):Frag F' sy' w N N1 fi la M:=by
 refine ⟨h.le,h.fin,h.lan,fun q h1 h2 r hf=>h.fol q h1 h2 r ((hF q r h1 h2).2 hf),fun a b hab=>?_⟩
 rw [←h.acc a b hab]
 constructor
 ·rintro ⟨q,r,k1,k2,k3⟩
  exact ⟨q,r,k1,(k2.mono (F':=F) (sy':=sy) (P:=fun q=>N≤q∧q<N1) (fun q r hp hf=>⟨(hF q r hp.1 hp.2).2 hf,h.fol q hp.1 hp.2 r ((hF q r hp.1 hp.2).2 hf)⟩) (fun q hp=>(hs q hp.1 hp.2).symm) (h.fin q k1)).1,k3⟩
 ·rintro ⟨q,r,k1,k2,k3⟩
  exact ⟨q,r,k1,(k2.mono (F':=F') (sy':=sy') (P:=fun q=>N≤q∧q<N1) (fun q r hp hf=>⟨(hF q r hp.1 hp.2).1 hf,h.fol q hp.1 hp.2 r hf⟩) (fun q hp=>hs q hp.1 hp.2) (h.fin q k1)).1,k3⟩
theorem Frag.same (h:Frag F sy w N N1 fi la M) {fi' la':Nat→Prop} {M':Nat→Nat→Prop} (h1:∀ q,fi q↔fi' q) (h2:∀ q,la q↔la' q) (h3:∀ a b,a<b→(M a b↔M' a b)):Frag F sy w N N1 fi' la' M':=by
 refine ⟨h.le,fun q hq=>h.fin q ((h1 q).2 hq),fun q hq=>h.lan q ((h2 q).2 hq),h.fol,fun a b hab=>?_⟩
 rw [←h3 a b hab,←h.acc a b hab]
 constructor
 ·rintro ⟨q,r,k1,k2,k3⟩;exact ⟨q,r,(h1 q).2 k1,k2,(h2 r).2 k3⟩
 ·rintro ⟨q,r,k1,k2,k3⟩;exact ⟨q,r,(h1 q).1 k1,k2,(h2 r).1 k3⟩
theorem frag_none (F:Nat→Nat→Prop) (sy:Nat→Int) (w:List Int) (N:Nat) {M:Nat→Nat→Prop} (hM:∀ a b,a<b→¬M a b):Frag F sy w N N (fun _=>False) (fun _=>False) M :=
 ⟨Nat.le_refl _,fun _ h=>h.elim,fun _ h=>h.elim,fun q h1 h2=>by omega,fun a b hab=>⟨fun ⟨_,_,h,_⟩=>h.elim,fun h=>absurd h (hM a b hab)⟩⟩
theorem frag_sym (hF:∀ r,¬F N r) {M:Nat→Nat→Prop} (hM:∀ a b,M a b↔b=a+1∧w[a]? = some (sy N)):Frag F sy w N (N+1) (fun q=>q=N) (fun q=>q=N) M:=by
 refine ⟨by omega,fun q h=>by omega,fun q h=>by omega,fun q h1 h2 r hf=>?_,fun a b hab=>?_⟩
 ·have:q=N:=by omega
  subst this
  exact absurd hf (hF r)
 ·rw [hM]
  constructor
  ·rintro ⟨q,r,rfl,hc,rfl⟩
   cases hc with
   | one q a h=>exact ⟨rfl,h⟩
   | step q q2 a b r h hf h2=>exact absurd hf (hF q2)
  ·rintro ⟨rfl,h⟩
   exact ⟨N,N,rfl,.one N a h,rfl⟩
theorem frag_or (h1:Frag F sy w N N1 fi la M) (h2:Frag F sy w N1 N2 fi2 la2 M2):Frag F sy w N N2 (fun q=>fi q∨fi2 q) (fun q=>la q∨la2 q) (fun a b=>M a b∨M2 a b):=by
 have l1:=h1.le
 have l2:=h2.le
 refine ⟨by omega,fun q h=>?_,fun q h=>?_,fun q k1 k2 r hf=>?_,fun a b hab=>?_⟩
 ·rcases h with h | h
  ·have:=h1.fin q h;omega
  ·have:=h2.fin q h;omega
 ·rcases h with h | h
  ·have:=h1.lan q h;omega
  ·have:=h2.lan q h;omega
 ·by_cases hq:q<N1
  ·have:=h1.fol q k1 hq r hf;omega
  ·have:=h2.fol q (by omega) k2 r hf;omega
 ·rw [←h1.acc a b hab,←h2.acc a b hab]
  constructor
  ·rintro ⟨q,r,k1 | k1,k2,k3⟩
   ·have hr:=h1.inside k2 (h1.fin q k1)
    rcases k3 with k3 | k3
    ·exact .inl ⟨q,r,k1,k2,k3⟩
    ·have:=h2.lan r k3;omega
   ·have hr:=h2.inside k2 (h2.fin q k1)
    rcases k3 with k3 | k3
    ·have:=h1.lan r k3;omega
    ·exact .inr ⟨q,r,k1,k2,k3⟩
  ·rintro (⟨q,r,k1,k2,k3⟩ | ⟨q,r,k1,k2,k3⟩)
   ·exact ⟨q,r,.inl k1,k2,.inl k3⟩
   ·exact ⟨q,r,.inr k1,k2,.inr k3⟩
theorem Ch.first {la fi:Nat→Prop} (hF:∀ q r,F' q r→F q r∨(la q∧fi r)) {q a b r:Nat} (h:Ch F' sy w q a b r):Ch F sy w q a b r∨∃ m q1 q2,Ch F sy w q a m q1∧la q1∧fi q2∧Ch F' sy w q2 m b r:=by
 induction h with
 | one q a h=>exact .inl (.one q a h)
 | step q q2 a b r h hf h2 ih =>
  rcases hF q q2 hf with k | ⟨k1,k2⟩
  ·rcases ih with ih | ⟨m,q1,q3,i1,i2,i3,i4⟩
   ·exact .inl (.step q q2 a b r h k ih)
   ·exact .inr ⟨m,q1,q3,.step q q2 a m q1 h k i1,i2,i3,i4⟩
  ·exact .inr ⟨a+1,q,q2,.one q a h,k1,k2,h2⟩
theorem frag_cat {ex ey:Prop} (h1:Frag F sy w N N1 fi la M) (h2:Frag F sy w N1 N2 fi2 la2 M2) (hF:∀ q r,N≤q→q<N2→(F' q r↔F q r∨(la q∧fi2 r)))
  (hx:∀ a b,M a b→a≤b∧b≤w.length) (hy:∀ a b,M2 a b→a≤b∧b≤w.length) (hx0:∀ a,a≤w.length→(M a a↔ex)) (hy0:∀ a,a≤w.length→(M2 a a↔ey)) :
  Frag F' sy w N N2 (fun q=>fi q∨(ex∧fi2 q)) (fun q=>la2 q∨(ey∧la q)) (fun a b=>∃ m,M a m∧M2 m b):=by
 have l1:=h1.le
 have l2:=h2.le
 have in2:∀ q,N1≤q→q<N2→∀ r,F' q r→F q r:=by
  intro q k1 k2 r hf
  rcases (hF q r (by omega) k2).1 hf with h | ⟨h,_⟩
  ·exact h
  ·have:=h1.lan q h;omega
 have mono:∀ q r,N≤q→q<N2→F q r→F' q r:=fun q r k1 k2 hf=>(hF q r k1 k2).2 (.inl hf)
 have ch2:∀ {q a b r:Nat},Ch F' sy w q a b r→N1≤q∧q<N2→Ch F sy w q a b r:=fun hc hq =>
  (hc.mono (F':=F) (sy':=sy) (P:=fun q=>N1≤q∧q<N2) (fun q r hp hf=>⟨in2 q hp.1 hp.2 r hf,h2.fol q hp.1 hp.2 r (in2 q hp.1 hp.2 r hf)⟩) (fun _ _=>rfl) hq).1
 have up1:∀ {q a b r:Nat},Ch F sy w q a b r→N≤q∧q<N1→Ch F' sy w q a b r:=fun hc hq =>
  (hc.mono (F':=F') (sy':=sy) (P:=fun q=>N≤q∧q<N1) (fun q r hp hf=>⟨mono q r hp.1 (by have:=hp.2;omega) hf,h1.fol q hp.1 hp.2 r hf⟩) (fun _ _=>rfl) hq).1
 have up2:∀ {q a b r:Nat},Ch F sy w q a b r→N1≤q∧q<N2→Ch F' sy w q a b r:=fun hc hq =>
  (hc.mono (F':=F') (sy':=sy) (P:=fun q=>N1≤q∧q<N2) (fun q r hp hf=>⟨mono q r (by have:=hp.1;omega) hp.2 hf,h2.fol q hp.1 hp.2 r hf⟩) (fun _ _=>rfl) hq).1
 refine ⟨by omega,fun q h=>?_,fun q h=>?_,fun q k1 k2 r hf=>?_,fun a b hab=>?_⟩
 ·rcases h with h | ⟨_,h⟩
  ·have:=h1.fin q h;omega
  ·have:=h2.fin q h;omega
 ·rcases h with h | ⟨_,h⟩
  ·have:=h2.lan q h;omega
  ·have:=h1.lan q h;omega
 ·rcases (hF q r k1 k2).1 hf with h | ⟨h,h'⟩
  ·by_cases hq:q<N1
   ·have:=h1.fol q k1 hq r h;omega
   ·have:=h2.fol q (by omega) k2 r h;omega
  ·have:=h2.fin r h';omega
 ·constructor
  ·rintro ⟨q,r,k1,k2,k3⟩
   have hlt:=k2.lt
   rcases k1 with k1 | ⟨e1,k1⟩
   ·have hq:=h1.fin q k1
    have key:Ch F sy w q a b r∨∃ m q1 q2,Ch F sy w q a m q1∧la q1∧fi2 q2∧Ch F' sy w q2 m b r:=by
     have:Ch (fun q r=>(N≤q∧q<N2)∧F' q r) sy w q a b r:=by
      refine (k2.mono (F':=fun q r=>(N≤q∧q<N2)∧F' q r) (sy':=sy) (P:=fun q=>N≤q∧q<N2) (fun q r hp hf=>⟨⟨hp,hf⟩,?_⟩) (fun _ _=>rfl) ⟨hq.1,by omega⟩).1
      rcases (hF q r hp.1 hp.2).1 hf with h | ⟨h,h'⟩
      ·by_cases hq:q<N1
       ·have:=h1.fol q hp.1 hq r h;omega
       ·have:=h2.fol q (by omega) hp.2 r h;omega
      ·have:=h2.fin r h';omega
     rcases this.first (F:=F) (la:=la) (fi:=fi2) (fun q r hf=>(hF q r hf.1.1 hf.1.2).1 hf.2) with h | ⟨m,q1,q2,i1,i2,i3,i4⟩
     ·exact .inl h
     ·exact .inr ⟨m,q1,q2,i1,i2,i3,(i4.mono (F':=F') (sy':=sy) (P:=fun _=>True) (fun q r _ hf=>⟨hf.2,trivial⟩) (fun _ _=>rfl) trivial).1⟩
    rcases key with hc | ⟨m,q1,q2,i1,i2,i3,i4⟩
    ·have hr:=h1.inside hc hq
     rcases k3 with k3 | ⟨e2,k3⟩
     ·have:=h2.lan r k3;omega
     ·exact ⟨b,(h1.acc a b hab).1 ⟨q,r,k1,hc,k3⟩,(hy0 b hlt.2).2 e2⟩
    ·have hq2:=h2.fin q2 i3
     have hc2:=ch2 i4 hq2
     have hr:=h2.inside hc2 hq2
     have k1':=i1.lt
     have k2':=i4.lt
     rcases k3 with k3 | ⟨_,k3⟩
     ·exact ⟨m,(h1.acc a m k1'.1).1 ⟨q,q1,k1,i1,i2⟩,(h2.acc m b k2'.1).1 ⟨q2,r,i3,hc2,k3⟩⟩
     ·have:=h1.lan r k3;omega
   ·have hq:=h2.fin q k1
    have hc2:=ch2 k2 hq
    have hr:=h2.inside hc2 hq
    rcases k3 with k3 | ⟨_,k3⟩
    ·exact ⟨a,(hx0 a (by omega)).2 e1,(h2.acc a b hab).1 ⟨q,r,k1,hc2,k3⟩⟩
    ·have:=h1.lan r k3;omega
  ·rintro ⟨m,m1,m2⟩
   have b1:=hx a m m1
   have b2:=hy m b m2
   by_cases ham:a=m
   ·subst ham
    have e1:=(hx0 a (by omega)).1 m1
    obtain ⟨q,r,k1,k2,k3⟩:=(h2.acc a b hab).2 m2
    exact ⟨q,r,.inr ⟨e1,k1⟩,up2 k2 (h2.fin q k1),.inl k3⟩
   ·by_cases hmb:m=b
    ·subst hmb
     have e2:=(hy0 m (by omega)).1 m2
     obtain ⟨q,r,k1,k2,k3⟩:=(h1.acc a m hab).2 m1
     exact ⟨q,r,.inl k1,up1 k2 (h1.fin q k1),.inr ⟨e2,k3⟩⟩
    ·obtain ⟨q,r,k1,k2,k3⟩:=(h1.acc a m (by omega)).2 m1
     obtain ⟨q',r',k1',k2',k3'⟩:=(h2.acc m b (by omega)).2 m2
     have hr:=h1.lan r k3
     exact ⟨q,r',.inl k1,(up1 k2 (h1.fin q k1)).join ((hF r q' hr.1 (by omega)).2 (.inr ⟨k3,k1'⟩)) (up2 k2' (h2.fin q' k1')),.inl k3'⟩
inductive Plus (M:Nat→Nat→Prop):Nat→Nat→Prop
 | one (a b:Nat) (h:M a b) (hab:a<b):Plus M a b
 | more (a m b:Nat) (h:M a m) (ham:a<m) (h2:Plus M m b):Plus M a b
theorem frag_star (h1:Frag F sy w N N1 fi la M) (hF:∀ q r,N≤q→q<N1→(F' q r↔F q r∨(la q∧fi r))):Frag F' sy w N N1 fi la (Plus M):=by
 have cl:∀ q r,N≤q→q<N1→F' q r→N≤r∧r<N1:=by
  intro q r k1 k2 hf
  rcases (hF q r k1 k2).1 hf with h | ⟨_,h⟩
  ·exact h1.fol q k1 k2 r h
  ·exact h1.fin r h
 have up:∀ {q a b r:Nat},Ch F sy w q a b r→N≤q∧q<N1→Ch F' sy w q a b r:=fun hc hq =>
  (hc.mono (F':=F') (sy':=sy) (P:=fun q=>N≤q∧q<N1) (fun q r hp hf=>⟨(hF q r hp.1 hp.2).2 (.inl hf),h1.fol q hp.1 hp.2 r hf⟩) (fun _ _=>rfl) hq).1
 refine ⟨h1.le,h1.fin,h1.lan,fun q k1 k2 r hf=>cl q r k1 k2 hf,fun a b hab=>⟨?_,fun h=>?_⟩⟩
 ·have key:∀ (n a b q r:Nat),b-a≤n→fi q→Ch F' sy w q a b r→la r→Plus M a b:=by
   intro n
   induction n with
   | zero=>intro a b q r hn _ hc _;have:=hc.lt;omega
   | succ n ih =>
    intro a b q r hn hq hc hr
    have hlt:=hc.lt
    have this:Ch (fun q r=>(N≤q∧q<N1)∧F' q r) sy w q a b r :=
     (hc.mono (F':=fun q r=>(N≤q∧q<N1)∧F' q r) (sy':=sy) (P:=fun q=>N≤q∧q<N1) (fun q r hp hf=>⟨⟨hp,hf⟩,cl q r hp.1 hp.2 hf⟩) (fun _ _=>rfl) (h1.fin q hq)).1
    rcases this.first (F:=F) (la:=la) (fi:=fi) (fun q r hf=>(hF q r hf.1.1 hf.1.2).1 hf.2) with h | ⟨m,q1,q2,i1,i2,i3,i4⟩
    ·exact .one a b ((h1.acc a b hlt.1).1 ⟨q,r,hq,h,hr⟩) hlt.1
    ·have k1:=i1.lt
     have k2:=i4.lt
     have i4':=(i4.mono (F':=F') (sy':=sy) (P:=fun _=>True) (fun q r _ hf=>⟨hf.2,trivial⟩) (fun _ _=>rfl) trivial).1
     exact .more a m b ((h1.acc a m k1.1).1 ⟨q,q1,hq,i1,i2⟩) k1.1 (ih m b q2 r (by omega) i3 i4' hr)
  rintro ⟨q,r,k1,k2,k3⟩
  exact key (b-a) a b q r (Nat.le_refl _) k1 k2 k3
 ·clear hab
  induction h with
  | one a b h hab =>
   obtain ⟨q,r,k1,k2,k3⟩:=(h1.acc a b hab).2 h
   exact ⟨q,r,k1,up k2 (h1.fin q k1),k3⟩
  | more a m b h ham h2 ih =>
   obtain ⟨q,r,k1,k2,k3⟩:=(h1.acc a m ham).2 h
   obtain ⟨q',r',k1',k2',k3'⟩:=ih
   have hr:=h1.lan r k3
   exact ⟨q,r',k1,(up k2 (h1.fin q k1)).join ((hF r q' hr.1 hr.2).2 (.inr ⟨k3,k1'⟩)) k2',k3'⟩
theorem plus_star {l:List Nd} {t:Nat} (hk:(nd l t).1=6) {a b:Nat} (hab:a<b):Plus (Mat l w (nd l t).2.1.toNat) a b↔Mat l w t a b:=by
 constructor
 ·intro h
  clear hab
  induction h with
  | one a b h hab=>exact star_left hk h (.star0 t b hk h.le.2)
  | more a m b h ham h2 ih=>exact star_left hk h ih
 ·have key:∀ (n a b:Nat),b-a≤n→a<b→Mat l w t a b→Plus (Mat l w (nd l t).2.1.toNat) a b:=by
   intro n
   induction n with
   | zero=>intro a b hn hab;omega
   | succ n ih =>
    intro a b hn hab h
    obtain ⟨m,h1,h2,h3⟩:=star_first' h hk hab
    by_cases hmb:m<b
    ·exact .more a m b h2 h1 (ih m b (by omega) hmb h3)
    ·have:m=b:=by have:=h3.le;omega
     subst this
     exact .one a m h2 h1
  exact key (b-a) a b (Nat.le_refl _) hab
end Gly
namespace Dec
open Go
def U32 (s:Int):Prop:=0≤s∧s<4294967296
def bt (s:Int) (i:Nat):Bool:=s.toNat.testBit i
theorem u32_of_ok {s:Int} (h:Ok (.int .u32) s):U32 s:=by
 have h1:IntKind.u32.min≤s∧s≤IntKind.u32.max:=h
 simp only [IntKind.min,IntKind.max,IntKind.signed,IntKind.bits] at h1
 unfold U32
 simp at h1
 omega
theorem u32_nat {s:Int} (h:U32 s):∃ n:Nat,n<4294967296∧s=(n:Int):=⟨s.toNat,by have:=h.1;have:=h.2;omega,by have:=h.1;omega⟩
theorem ofInt_nat {n:Nat} (h:n<4294967296):(BitVec.ofInt 32 (n:Int)).toNat=n:=by
 simp [BitVec.toNat_ofInt];omega
theorem wrap_nat {n:Nat} (h:n<4294967296):IntKind.wrap .u32 (n:Int)=(n:Int):=wrapU32 ⟨by omega,by omega⟩
theorem bAnd_nat {m n:Nat} (hm:m<4294967296) (hn:n<4294967296):bAnd .u32 (m:Int) (n:Int)=((m &&& n:Nat):Int):=by
 unfold bAnd
 have:(BitVec.ofInt 32 (m:Int) &&& BitVec.ofInt 32 (n:Int)).toNat=m &&& n:=by rw [BitVec.toNat_and,ofInt_nat hm,ofInt_nat hn]
 show IntKind.wrap .u32 ((BitVec.ofInt 32 (m:Int) &&& BitVec.ofInt 32 (n:Int)).toNat:Int)=_
 rw [this,wrap_nat (by have:=Nat.and_le_left (n:=m) (m:=n);omega)]
theorem bOr_nat {m n:Nat} (hm:m<4294967296) (hn:n<4294967296):bOr .u32 (m:Int) (n:Int)=((m ||| n:Nat):Int)∧(m ||| n)<4294967296:=by
 have hlt:(m ||| n)<4294967296:=Nat.or_lt_two_pow (n:=32) hm hn
 refine ⟨?_,hlt⟩
 unfold bOr
 have:(BitVec.ofInt 32 (m:Int) ||| BitVec.ofInt 32 (n:Int)).toNat=m ||| n:=by rw [BitVec.toNat_or,ofInt_nat hm,ofInt_nat hn]
 show IntKind.wrap .u32 ((BitVec.ofInt 32 (m:Int) ||| BitVec.ofInt 32 (n:Int)).toNat:Int)=_
 rw [this,wrap_nat hlt]
theorem bt_or {s t:Int} (hs:U32 s) (ht:U32 t) (i:Nat):bt (bOr .u32 s t) i=(bt s i||bt t i):=by
 obtain ⟨m,hm,rfl⟩:=u32_nat hs
 obtain ⟨n,hn,rfl⟩:=u32_nat ht
 rw [(bOr_nat hm hn).1]
 simp [bt,Nat.testBit_or]
theorem u32_or {s t:Int} (hs:U32 s) (ht:U32 t):U32 (bOr .u32 s t):=by
 obtain ⟨m,hm,rfl⟩:=u32_nat hs
 obtain ⟨n,hn,rfl⟩:=u32_nat ht
 rw [(bOr_nat hm hn).1]
 have:=(bOr_nat hm hn).2
 exact ⟨by omega,by omega⟩
theorem bt_ge {s:Int} (hs:U32 s) {i:Nat} (hi:32≤i):bt s i=false:=by
 obtain ⟨m,hm,rfl⟩:=u32_nat hs
 simp only [bt,Int.toNat_natCast]
 exact Nat.testBit_lt_two_pow (Nat.lt_of_lt_of_le hm (Nat.pow_le_pow_right (n:=2) (by decide) hi))
theorem u32_ext {s t:Int} (hs:U32 s) (ht:U32 t) (h:∀ i,i<32→bt s i=bt t i):s=t:=by
 obtain ⟨m,hm,rfl⟩:=u32_nat hs
 obtain ⟨n,hn,rfl⟩:=u32_nat ht
 congr 1
 apply Nat.eq_of_testBit_eq
 intro i
 by_cases hi:i<32
 ·simpa [bt] using h i hi
 ·have h1:=bt_ge hs (i:=i) (by omega)
  have h2:=bt_ge ht (i:=i) (by omega)
  simp only [bt,Int.toNat_natCast] at h1 h2
  rw [h1,h2]
theorem u32_zero:U32 0:=⟨by omega,by omega⟩
theorem bt_zero (i:Nat):bt 0 i=false:=by simp [bt]
theorem shl1 {n:Nat} (h:n<32):bShl .u32 1 (n:Int)=((2 ^ n:Nat):Int):=by
 unfold bShl
 have hp:(2:Nat) ^ n<4294967296:=by
  have:(2:Nat) ^ n<2 ^ 32:=Nat.pow_lt_pow_right (by decide) h
  simpa using this
 have hm:min (n:Int).toNat IntKind.u32.bits=n:=by simp [IntKind.bits];omega
 rw [hm,Int.one_mul]
 have:(2:Int) ^ n=((2 ^ n:Nat):Int):=by simp
 rw [this,wrap_nat hp]
theorem u32_shl1 (n:Int):U32 (bShl .u32 1 n):=by
 unfold bShl U32
 have:=@IntKind.wrap .u32 (1*2 ^ min n.toNat IntKind.u32.bits)
 simp only [IntKind.wrap,IntKind.signed,IntKind.bits]
 simp
 omega
theorem bt_shl1 {n:Nat} (h:n<32) (i:Nat):bt (bShl .u32 1 (n:Int)) i=decide (n=i):=by
 rw [shl1 h]
 simp only [bt,Int.toNat_natCast]
 rw [Nat.testBit_two_pow]
theorem shr_nat {m:Nat} (n:Nat) (hm:m<4294967296):bShr .u32 (m:Int) (n:Int)=((m / 2 ^ n:Nat):Int):=by
 unfold bShr
 simp only [IntKind.bits,Int.toNat_natCast]
 have e:(2:Int) ^ (min n 32)=((2 ^ (min n 32):Nat):Int):=by simp
 rw [e,Int.fdiv_eq_ediv_of_nonneg _ (Int.natCast_nonneg _),←Int.natCast_ediv]
 congr 1
 by_cases h:n≤32
 ·rw [Nat.min_eq_left h]
 ·rw [Nat.min_eq_right (by omega)]
  rw [Nat.div_eq_of_lt (by simpa using hm),Nat.div_eq_of_lt]
  exact Nat.lt_of_lt_of_le hm (Nat.pow_le_pow_right (n:=2) (by decide) (show 32≤n by omega))
theorem has_bt {s n:Int} (hs:U32 s) (hn:0≤n):(decide ((bAnd .u32 (bShr .u32 s n) (1:Int))=(1:Int)))=bt s n.toNat:=by
 obtain ⟨m,hm,rfl⟩:=u32_nat hs
 obtain ⟨k,rfl⟩:∃ k:Nat,n=(k:Int):=⟨n.toNat,by omega⟩
 rw [shr_nat k hm]
 have h1:=bAnd_nat (m:=m / 2 ^ k) (n:=1) (Nat.lt_of_le_of_lt (Nat.div_le_self _ _) hm) (by decide)
 rw [show ((1:Nat):Int)=1 from rfl] at h1
 rw [h1]
 simp only [bt,Int.toNat_natCast,Nat.testBit_eq_decide_div_mod_eq,Nat.and_one_is_mod]
 congr 1
 rw [eq_iff_iff]
 omega
theorem shr_zero {s:Int} {n:Nat} (hs:U32 s):bShr .u32 s (n:Int)=0↔s<((2 ^ n:Nat):Int):=by
 obtain ⟨m,hm,rfl⟩:=u32_nat hs
 rw [shr_nat n hm]
 have:(m / 2 ^ n:Nat)=0↔m<2 ^ n:=by rw [Nat.div_eq_zero_iff];simp [Nat.pow_eq_zero]
 omega
theorem below_bt {s:Int} {n:Nat} (hs:U32 s):s<((2 ^ n:Nat):Int)↔∀ i,n≤i→bt s i=false:=by
 obtain ⟨m,hm,rfl⟩:=u32_nat hs
 simp only [bt,Int.toNat_natCast]
 constructor
 ·intro h i hi
  have:m<2 ^ n:=by omega
  exact Nat.testBit_lt_two_pow (Nat.lt_of_lt_of_le this (Nat.pow_le_pow_right (n:=2) (by decide) hi))
 ·intro h
  have:m<2 ^ n:=Nat.lt_pow_two_of_testBit _ h
  omega
end Dec
