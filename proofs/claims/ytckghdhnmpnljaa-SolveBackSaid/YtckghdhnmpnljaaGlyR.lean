/-
How many sets of positions a short expression has (plain Lean, no program in sight). Sets of positions of expressions of one sign (plain Lean): the sets grow along each residue. Sets of positions of expressions of two signs or more (plain Lean): few positions bear one sign. Sets of positions of expressions of two signs, seven nodes with two parts and nothing else (plain Lean), and the bound for all. Which words lead to which positions (plain Lean): position automata and trees of expressions.
-/
import Derived.Test.YtckghdhnmpnljaaGlyA
set_option linter.unusedSimpArgs false
set_option linter.unusedVariables false
namespace Rex
/-! ### counts -/
open Classical in
noncomputable def hm (P:Nat→Prop):Nat→Nat
 | 0=>0
 | t+1=>hm P t+if P t then 1 else 0
theorem hm_yes {P:Nat→Prop} {t:Nat} (h:P t):hm P (t+1)=hm P t+1:=by
 unfold hm
 rw [if_pos h]
 cases t <;> rfl
theorem hm_no {P:Nat→Prop} {t:Nat} (h:¬P t):hm P (t+1)=hm P t:=by
 unfold hm
 rw [if_neg h]
 cases t <;> rfl
theorem hm_step (P:Nat→Prop) (t:Nat):hm P t≤hm P (t+1)∧hm P (t+1)≤hm P t+1:=by
 by_cases h:P t
 ·rw [hm_yes h];omega
 ·rw [hm_no h];omega
theorem hm_le (P:Nat→Prop):∀ t,hm P t≤t
 | 0=>Nat.le_refl _
 | t+1=>by have:=hm_le P t;have:=hm_step P t;omega
theorem hm_up (P:Nat→Prop) {a:Nat} : ∀ {b:Nat},a≤b→hm P a≤hm P b
 | 0,h=>by
   have:a=0:=by omega
   subst this;exact Nat.le_refl _
 | b+1,h=>by
  by_cases e:a=b+1
  ·subst e;exact Nat.le_refl _
  ·exact Nat.le_trans (hm_up P (show a≤b by omega)) (hm_step P b).1
theorem hm_in {P:Nat→Prop} {t n:Nat} (h:P t) (hn:t<n):hm P t+1≤hm P n:=by
 rw [←hm_yes h];exact hm_up P hn
theorem hm_mono {P Q:Nat→Prop} : ∀ t,(∀ i,i<t→P i→Q i)→hm P t≤hm Q t
 | 0,_=>Nat.le_refl _
 | t+1,h=>by
  have h1:=hm_mono t fun i hi=>h i (by omega)
  by_cases hp:P t
  ·rw [hm_yes hp,hm_yes (h t (by omega) hp)];omega
  ·rw [hm_no hp];have:=hm_step Q t;omega
theorem hm_lt {P Q:Nat→Prop} : ∀ t,(∀ i,i<t→P i→Q i)→∀ j,j<t→Q j→¬P j→hm P t<hm Q t
 | 0,_,j,hj,_,_=>by omega
 | t+1,h,j,hj,hq,hp=>by
  by_cases e:j=t
  ·subst e
   rw [hm_no hp,hm_yes hq]
   have:=hm_mono j fun i hi=>h i (by omega)
   omega
  ·have h1:=hm_lt t (fun i hi=>h i (by omega)) j (by omega) hq hp
   by_cases hpt:P t
   ·rw [hm_yes hpt,hm_yes (h t (by omega) hpt)];omega
   ·rw [hm_no hpt];have:=hm_step Q t;omega
theorem hm_eq {P Q:Nat→Prop} {t:Nat} (h:∀ i,i<t→P i→Q i) (he:hm P t=hm Q t):∀ i,i<t→(P i↔Q i):=by
 intro i hi
 refine ⟨h i hi,fun hq=>Classical.byContradiction fun hp=>?_⟩
 have:=hm_lt t h i hi hq hp
 omega
theorem hm_both {P Q R:Nat→Prop} : ∀ t,(∀ i,i<t→¬(P i∧Q i))→(∀ i,i<t→P i∨Q i→R i)→hm P t+hm Q t≤hm R t
 | 0,_,_=>Nat.le_refl _
 | t+1,h,hr=>by
  have h1:=hm_both t (fun i hi=>h i (by omega)) (fun i hi=>hr i (by omega))
  have h2:=h t (by omega)
  have h3:=hr t (by omega)
  by_cases hp:P t
  ·by_cases hq:Q t
   ·exact absurd ⟨hp,hq⟩ h2
   ·rw [hm_yes hp,hm_no hq,hm_yes (h3 (.inl hp))];omega
  ·by_cases hq:Q t
   ·rw [hm_no hp,hm_yes hq,hm_yes (h3 (.inr hq))];omega
   ·rw [hm_no hp,hm_no hq];have:=hm_step R t;omega
theorem hm_rem {P:Nat→Prop} {t i:Nat} (hi:i<t) (h:P i):hm (fun j=>P j∧j≠i) t+1≤hm P t :=
 hm_lt t (fun _ _ h=>h.1) i hi h (fun h=>h.2 rfl)
theorem hm_two {P:Nat→Prop} {t i j:Nat} (hi:i<t) (hj:j<t) (pi:P i) (pj:P j) (hij:i≠j):2≤hm P t:=by
 have h1:=hm_rem hi pi
 have h2:=hm_rem (P:=fun j=>P j∧j≠i) hj ⟨pj,hij.symm⟩
 omega
theorem hm_three {P:Nat→Prop} {t i j k:Nat} (hi:i<t) (hj:j<t) (hk:k<t) (pi:P i) (pj:P j) (pk:P k) (hij:i≠j) (hik:i≠k) (hjk:j≠k):3≤hm P t:=by
 have h1:=hm_rem hi pi
 have h2:=hm_two (P:=fun j=>P j∧j≠i) hj hk ⟨pj,hij.symm⟩ ⟨pk,hik.symm⟩ hjk
 omega
theorem p2_up {a b:Nat} (h:a≤b):2 ^ a≤2 ^ b:=Nat.pow_le_pow_right (by omega) h
theorem p2_dbl {a b:Nat} (h:a+1≤b):2 ^ a+2 ^ a≤2 ^ b:=by
 have h1:=p2_up h
 rw [Nat.pow_succ] at h1
 omega
/-! ### expressions as trees, their words, and the words that lead to a position -/
inductive Rg where
 | no | ep
 | sy (a:Int)
 | ca (x y:Rg)
 | al (x y:Rg)
 | st (x:Rg)
inductive Star (L:List Int→Prop):List Int→Prop
 | nil:Star L []
 | more (u v:List Int) (h:Star L u) (h2:L v):Star L (u++v)
def Lg:Rg→List Int→Prop
 | .no,_=>False
 | .ep,w=>w=[]
 | .sy a,w=>w=[a]
 | .ca x y,w=>∃ u v,w=u++v∧Lg x u∧Lg y v
 | .al x y,w=>Lg x w∨Lg y w
 | .st x,w=>Star (Lg x) w
def cnt:Rg→Nat
 | .no=>0
 | .ep=>0
 | .sy _=>1
 | .ca x y=>cnt x+cnt y
 | .al x y=>cnt x+cnt y
 | .st x=>cnt x
def syr:Rg→Nat→Int
 | .no,_=>0
 | .ep,_=>0
 | .sy a,_=>a
 | .ca x y,p=>if p<cnt x then syr x p else syr y (p-cnt x)
 | .al x y,p=>if p<cnt x then syr x p else syr y (p-cnt x)
 | .st x,p=>syr x p
def Rc:Rg→Nat→List Int→Prop
 | .no,_,_=>False
 | .ep,_,_=>False
 | .sy a,p,w=>p=0∧w=[a]
 | .ca x y,p,w=>(p<cnt x∧Rc x p w)∨(cnt x≤p∧∃ u v,w=u++v∧Lg x u∧Rc y (p-cnt x) v)
 | .al x y,p,w=>(p<cnt x∧Rc x p w)∨(cnt x≤p∧Rc y (p-cnt x) w)
 | .st x,p,w=>∃ u v,w=u++v∧Star (Lg x) u∧Rc x p v
theorem rc_lt:∀ (r:Rg) {p:Nat} {w:List Int},Rc r p w→p<cnt r
 | .no,_,_,h=>h.elim
 | .ep,_,_,h=>h.elim
 | .sy a,p,w,h=>by have:=h.1;show p<1;omega
 | .ca x y,p,w,h=>by
  show p<cnt x+cnt y
  rcases h with ⟨h,_⟩ | ⟨h,u,v,_,_,h2⟩
  ·omega
  ·have:=rc_lt y h2;omega
 | .al x y,p,w,h=>by
  show p<cnt x+cnt y
  rcases h with ⟨h,_⟩ | ⟨h,h2⟩
  ·omega
  ·have:=rc_lt y h2;omega
 | .st x,p,w,h=>by
  obtain ⟨u,v,_,_,h⟩:=h
  exact rc_lt x h
theorem rc_last:∀ (r:Rg) {p:Nat} {w:List Int},Rc r p w→∃ u,w=u++[syr r p]
 | .no,_,_,h=>h.elim
 | .ep,_,_,h=>h.elim
 | .sy a,p,w,h=>⟨[],h.2⟩
 | .ca x y,p,w,h=>by
  rcases h with ⟨h1,h⟩ | ⟨h1,u,v,e,_,h⟩
  ·obtain ⟨u,hu⟩:=rc_last x h
   refine ⟨u,?_⟩
   show w=u++[if p<cnt x then syr x p else syr y (p-cnt x)]
   rw [if_pos h1];exact hu
  ·obtain ⟨u',hu⟩:=rc_last y h
   refine ⟨u++u',?_⟩
   show w=u++u'++[if p<cnt x then syr x p else syr y (p-cnt x)]
   rw [if_neg (by omega),e,hu,List.append_assoc]
 | .al x y,p,w,h=>by
  rcases h with ⟨h1,h⟩ | ⟨h1,h⟩
  ·obtain ⟨u,hu⟩:=rc_last x h
   refine ⟨u,?_⟩
   show w=u++[if p<cnt x then syr x p else syr y (p-cnt x)]
   rw [if_pos h1];exact hu
  ·obtain ⟨u,hu⟩:=rc_last y h
   refine ⟨u,?_⟩
   show w=u++[if p<cnt x then syr x p else syr y (p-cnt x)]
   rw [if_neg (by omega)];exact hu
 | .st x,p,w,h=>by
  obtain ⟨u,v,e,_,h⟩:=h
  obtain ⟨u',hu⟩:=rc_last x h
  exact ⟨u++u',by rw [e,hu,List.append_assoc];rfl⟩
def Sg (r:Rg) (s:Int):Prop:=∃ q,q<cnt r∧syr r q=s
theorem sg_left {x y:Rg} {s:Int} (h:Sg x s):Sg (.ca x y) s∧Sg (.al x y) s:=by
 obtain ⟨q,h1,h2⟩:=h
 constructor
 ·refine ⟨q,by show q<cnt x+cnt y;omega,?_⟩
  show (if q<cnt x then syr x q else syr y (q-cnt x))=s
  rw [if_pos h1];exact h2
 ·refine ⟨q,by show q<cnt x+cnt y;omega,?_⟩
  show (if q<cnt x then syr x q else syr y (q-cnt x))=s
  rw [if_pos h1];exact h2
theorem sg_right {x y:Rg} {s:Int} (h:Sg y s):Sg (.ca x y) s∧Sg (.al x y) s:=by
 obtain ⟨q,h1,h2⟩:=h
 constructor
 ·refine ⟨cnt x+q,by show cnt x+q<cnt x+cnt y;omega,?_⟩
  show (if cnt x+q<cnt x then syr x (cnt x+q) else syr y (cnt x+q-cnt x))=s
  rw [if_neg (by omega),Nat.add_sub_cancel_left];exact h2
 ·refine ⟨cnt x+q,by show cnt x+q<cnt x+cnt y;omega,?_⟩
  show (if cnt x+q<cnt x then syr x (cnt x+q) else syr y (cnt x+q-cnt x))=s
  rw [if_neg (by omega),Nat.add_sub_cancel_left];exact h2
theorem sg_or {x y:Rg} {s:Int} (h:Sg (.ca x y) s∨Sg (.al x y) s):Sg x s∨Sg y s:=by
 have key:∀ q,q<cnt x+cnt y→(if q<cnt x then syr x q else syr y (q-cnt x))=s→Sg x s∨Sg y s:=by
  intro q h1 h2
  by_cases h:q<cnt x
  ·rw [if_pos h] at h2;exact .inl ⟨q,h,h2⟩
  ·rw [if_neg h] at h2;exact .inr ⟨q-cnt x,by omega,h2⟩
 rcases h with ⟨q,h1,h2⟩ | ⟨q,h1,h2⟩
 ·exact key q h1 h2
 ·exact key q h1 h2
theorem star_sg {L:List Int→Prop} {P:Int→Prop} (h:∀ w,L w→∀ s∈w,P s) {w:List Int} (hw:Star L w):∀ s∈w,P s:=by
 induction hw with
 | nil=>intro s hs;cases hs
 | more u v h1 h2 ih =>
  intro s hs
  rcases List.mem_append.1 hs with hs | hs
  ·exact ih s hs
  ·exact h v h2 s hs
theorem lg_sg:∀ (r:Rg) (w:List Int),Lg r w→∀ s∈w,Sg r s
 | .no,_,h=>h.elim
 | .ep,w,h=>by
   intro s hs;have:w=[]:=h
   rw [this] at hs;cases hs
 | .sy a,w,h=>by
  intro s hs
  have:w=[a]:=h
  rw [this] at hs
  exact ⟨0,by show 0<1;omega,(List.mem_singleton.1 hs).symm⟩
 | .ca x y,w,h=>by
  intro s hs
  obtain ⟨u,v,rfl,h1,h2⟩:=h
  rcases List.mem_append.1 hs with hs | hs
  ·exact (sg_left (lg_sg x u h1 s hs)).1
  ·exact (sg_right (lg_sg y v h2 s hs)).1
 | .al x y,w,h=>by
  intro s hs
  rcases h with h | h
  ·exact (sg_left (lg_sg x w h s hs)).2
  ·exact (sg_right (lg_sg y w h s hs)).2
 | .st x,w,h=>star_sg (P:=Sg x) (fun w hw=>lg_sg x w hw) h
theorem rc_sg:∀ (r:Rg) {p:Nat} {w:List Int},Rc r p w→∀ s∈w,Sg r s
 | .no,_,_,h=>h.elim
 | .ep,_,_,h=>h.elim
 | .sy a,p,w,h=>by
  intro s hs
  rw [h.2] at hs
  exact ⟨0,by show 0<1;omega,(List.mem_singleton.1 hs).symm⟩
 | .ca x y,p,w,h=>by
  intro s hs
  rcases h with ⟨h1,h⟩ | ⟨h1,u,v,rfl,h2,h⟩
  ·exact (sg_left (rc_sg x h s hs)).1
  ·rcases List.mem_append.1 hs with hs | hs
   ·exact (sg_left (lg_sg x u h2 s hs)).1
   ·exact (sg_right (rc_sg y h s hs)).1
 | .al x y,p,w,h=>by
  intro s hs
  rcases h with ⟨h1,h⟩ | ⟨h1,h⟩
  ·exact (sg_left (rc_sg x h s hs)).2
  ·exact (sg_right (rc_sg y h s hs)).2
 | .st x,p,w,h=>by
  intro s hs
  obtain ⟨u,v,rfl,h2,h⟩:=h
  rcases List.mem_append.1 hs with hs | hs
  ·exact star_sg (P:=Sg x) (fun w hw=>lg_sg x w hw) h2 s hs
  ·exact rc_sg x h s hs
/-! ### the tree of a node -/
def tree (l:List Nd):Nat→Nat→Rg
 | 0,_=>.no
 | n+1,t =>
  if (nd l t).1=2 then .ep
  else if (nd l t).1=3 then .sy (nd l t).2.1
  else if (nd l t).1=4 then .ca (tree l n (nd l t).2.1.toNat) (tree l n (nd l t).2.2.toNat)
  else if (nd l t).1=5 then .al (tree l n (nd l t).2.1.toNat) (tree l n (nd l t).2.2.toNat)
  else if (nd l t).1=6 then .st (tree l n (nd l t).2.1.toNat)
  else .no
theorem tree_fuel {k:Int} {l:List Nd} (hok:∀ t,t<l.length→OkN k t (nd l t)):∀ n m t,t<l.length→t<n→t<m→tree l n t=tree l m t
 | 0,_,t,_,h,_=>by omega
 | _,0,t,_,_,h=>by omega
 | n+1,m+1,t,ht,h1,h2=>by
  have hr:=refs (hok t ht)
  unfold tree
  split
  ·rfl
  split
  ·rfl
  split
  ·rename_i h
   have:=hr.1 (.inl h)
   rw [tree_fuel hok n m _ (by omega) (by omega) (by omega),tree_fuel hok n m (nd l t).2.2.toNat (by omega) (by omega) (by omega)]
  split
  ·rename_i h
   have:=hr.1 (.inr h)
   rw [tree_fuel hok n m _ (by omega) (by omega) (by omega),tree_fuel hok n m (nd l t).2.2.toNat (by omega) (by omega) (by omega)]
  split
  ·rename_i h
   have:=hr.2 h
   rw [tree_fuel hok n m _ (by omega) (by omega) (by omega)]
  ·rfl
def tr (l:List Nd) (t:Nat):Rg:=tree l (t+1) t
inductive Shape (l:List Nd) (t:Nat):Prop
 | no (h:(nd l t).1=1) (e:tr l t=.no)
 | ep (h:(nd l t).1=2) (e:tr l t=.ep)
 | sy (h:(nd l t).1=3) (e:tr l t=.sy (nd l t).2.1)
 | ca (h:(nd l t).1=4) (x y:Nat) (ex:x=(nd l t).2.1.toNat) (ey:y=(nd l t).2.2.toNat) (hx:x<t) (hy:y<t) (e:tr l t=.ca (tr l x) (tr l y))
 | al (h:(nd l t).1=5) (x y:Nat) (ex:x=(nd l t).2.1.toNat) (ey:y=(nd l t).2.2.toNat) (hx:x<t) (hy:y<t) (e:tr l t=.al (tr l x) (tr l y))
 | st (h:(nd l t).1=6) (x:Nat) (ex:x=(nd l t).2.1.toNat) (hx:x<t) (e:tr l t=.st (tr l x))
theorem shape {k:Int} {l:List Nd} (hok:∀ t,t<l.length→OkN k t (nd l t)) {t:Nat} (ht:t<l.length):Shape l t:=by
 have hr:=refs (hok t ht)
 have hk:=hok t ht
 unfold OkN at hk
 rcases hk with h | h | ⟨h,_⟩ | ⟨h | h,_⟩ | ⟨h,_⟩
 ·exact .no h (by unfold tr tree;rw [if_neg (by omega),if_neg (by omega),if_neg (by omega),if_neg (by omega),if_neg (by omega)])
 ·exact .ep h (by unfold tr tree;rw [if_pos h])
 ·exact .sy h (by unfold tr tree;rw [if_neg (by omega),if_pos h])
 ·obtain ⟨hx,hy⟩:=hr.1 (.inl h)
  refine .ca h _ _ rfl rfl hx hy ?_
  unfold tr
  rw [tree_fuel hok _ t (nd l t).2.1.toNat (by omega) (by omega) hx,tree_fuel hok _ t (nd l t).2.2.toNat (by omega) (by omega) hy]
  show tree l (t+1) t=_
  rw [show tree l (t+1) t=_ from rfl]
  unfold tree
  rw [if_neg (by omega),if_neg (by omega),if_pos h]
  cases t with
  | zero=>omega
  | succ t=>rfl
 ·obtain ⟨hx,hy⟩:=hr.1 (.inr h)
  refine .al h _ _ rfl rfl hx hy ?_
  unfold tr
  rw [tree_fuel hok _ t (nd l t).2.1.toNat (by omega) (by omega) hx,tree_fuel hok _ t (nd l t).2.2.toNat (by omega) (by omega) hy]
  unfold tree
  rw [if_neg (by omega),if_neg (by omega),if_neg (by omega),if_pos h]
  cases t with
  | zero=>omega
  | succ t=>rfl
 ·have hx:=hr.2 h
  refine .st h _ rfl hx ?_
  unfold tr
  rw [tree_fuel hok _ t (nd l t).2.1.toNat (by omega) (by omega) hx]
  unfold tree
  rw [if_neg (by omega),if_neg (by omega),if_neg (by omega),if_neg (by omega),if_pos h]
  cases t with
  | zero=>omega
  | succ t=>rfl
end Rex
namespace Rex
def isB (l:List Nd) (t:Nat):Prop:=(nd l t).1=4∨(nd l t).1=5
def isSt (l:List Nd) (t:Nat):Prop:=(nd l t).1=6
abbrev rp (t:Nat) (c:Int):List Int:=List.replicate t c
theorem rep_split {u v:List Int} {t:Nat} {c:Int} (h:rp t c=u++v):∃ a b,t=a+b∧u=rp a c∧v=rp b c:=by
 have:=List.append_eq_replicate_iff.1 h.symm
 exact ⟨u.length,v.length,this.1.symm,this.2.1,this.2.2⟩
theorem rep_join (a b:Nat) (c:Int):rp a c++rp b c=rp (a+b) c:=List.replicate_append_replicate
def Bp:Rg→Nat
 | .no=>1
 | .ep=>1
 | .sy _=>2
 | .ca x y=>Bp x+Bp y
 | .al x y=>Bp x+Bp y
 | .st x=>Bp x
theorem Bp_pos:∀ r,1≤Bp r
 | .no=>Nat.le_refl _
 | .ep=>Nat.le_refl _
 | .sy _=>by show 1≤2;omega
 | .ca x y=>by have:=Bp_pos x;show 1≤Bp x+Bp y;omega
 | .al x y=>by have:=Bp_pos x;show 1≤Bp x+Bp y;omega
 | .st x=>Bp_pos x
def Dv (c:Int) (D:Nat):Rg→Prop
 | .no=>True
 | .ep=>True
 | .sy _=>True
 | .ca x y=>Dv c D x∧Dv c D y
 | .al x y=>Dv c D x∧Dv c D y
 | .st x=>Dv c D x∧∀ t,0<t→Lg x (rp t c)→∃ m,0<m∧m∣D∧Lg x (rp m c)
theorem Dv.mono {c:Int} {D E:Nat} (h:D∣E):∀ {r:Rg},Dv c D r→Dv c E r
 | .no,_=>trivial
 | .ep,_=>trivial
 | .sy _,_=>trivial
 | .ca x y,hr=>⟨Dv.mono h hr.1,Dv.mono h hr.2⟩
 | .al x y,hr=>⟨Dv.mono h hr.1,Dv.mono h hr.2⟩
 | .st x,hr=>⟨Dv.mono h hr.1,fun t ht hx=>by
  obtain ⟨m,h1,h2,h3⟩:=hr.2 t ht hx
  exact ⟨m,h1,Nat.dvd_trans h2 h,h3⟩⟩
theorem star_app {L:List Int→Prop} {u v:List Int} (h:Star L u) (h2:Star L v):Star L (u++v):=by
 induction h2 with
 | nil=>rw [List.append_nil];exact h
 | more a b h1 h2 ih=>rw [←List.append_assoc];exact .more _ _ ih h2
theorem star_one {L:List Int→Prop} {u:List Int} (h:L u):Star L u:=by
 have:=Star.more [] u .nil h
 simpa using this
theorem star_mul {L:List Int→Prop} {m:Nat} {c:Int} (h:L (rp m c)):∀ q,Star L (rp (m*q) c)
 | 0=>by rw [Nat.mul_zero];exact .nil
 | q+1=>by
  have:=star_app (star_mul h q) (star_one h)
  rw [rep_join] at this
  rw [Nat.mul_succ];exact this
theorem star_some {L:List Int→Prop} {c:Int} {w:List Int} (h:Star L w):∀ t,0<t→w=rp t c→∃ m,0<m∧L (rp m c):=by
 induction h with
 | nil=>intro t ht e;cases t with
  | zero=>omega
  | succ t=>cases e
 | more u v h1 h2 ih =>
  intro t ht e
  obtain ⟨a,b,e1,rfl,rfl⟩:=rep_split e.symm
  by_cases hb:0<b
  ·exact ⟨b,hb,h2⟩
  ·exact ih a (by omega) rfl
theorem star_pump {x:Rg} {c:Int} {D t:Nat} (hd:Dv c D (.st x)) (ht:0<t) (h:Star (Lg x) (rp t c)):Star (Lg x) (rp (t+D) c):=by
 obtain ⟨m0,h1,h2⟩:=star_some h t ht rfl
 obtain ⟨m,h3,⟨q,rfl⟩,h5⟩:=hd.2 m0 h1 h2
 have:=star_app h (star_mul h5 q)
 rw [rep_join] at this
 exact this
theorem pump_lg {c:Int} {D:Nat} : ∀ {r:Rg},Dv c D r→∀ t,Bp r≤t→Lg r (rp t c)→Lg r (rp (t+D) c)
 | .no,_,_,_,h=>h.elim
 | .ep,_,t,ht,h=>by
  have h':rp t c=[]:=h
  have:=congrArg List.length h'
  simp at this
  have:1≤t:=ht
  omega
 | .sy a,_,t,ht,h=>by
  have h':rp t c=[a]:=h
  have:=congrArg List.length h'
  simp at this
  have:2≤t:=ht
  omega
 | .ca x y,hd,t,ht,h=>by
  obtain ⟨u,v,e,h1,h2⟩:=h
  obtain ⟨a,b,rfl,rfl,rfl⟩:=rep_split e
  have ht':Bp x+Bp y≤a+b:=ht
  by_cases hx:Bp x≤a
  ·exact ⟨rp (a+D) c,rp b c,by rw [rep_join];congr 1;omega,pump_lg hd.1 a hx h1,h2⟩
  ·exact ⟨rp a c,rp (b+D) c,by rw [rep_join];congr 1;omega,h1,pump_lg hd.2 b (by omega) h2⟩
 | .al x y,hd,t,ht,h=>by
  have ht':Bp x+Bp y≤t:=ht
  rcases h with h | h
  ·exact .inl (pump_lg hd.1 t (by omega) h)
  ·exact .inr (pump_lg hd.2 t (by omega) h)
 | .st x,hd,t,ht,h=>by
  have:=Bp_pos x
  have ht':Bp x≤t:=ht
  exact star_pump hd (by omega) h
theorem pump_rc {c:Int} {D:Nat} : ∀ {r:Rg},Dv c D r→∀ p t,Bp r≤t→Rc r p (rp t c)→Rc r p (rp (t+D) c)
 | .no,_,_,_,_,h=>h.elim
 | .ep,_,_,_,_,h=>h.elim
 | .sy a,_,p,t,ht,h=>by
  have h':rp t c=[a]:=h.2
  have:=congrArg List.length h'
  simp at this
  have:2≤t:=ht
  omega
 | .ca x y,hd,p,t,ht,h=>by
  have ht':Bp x+Bp y≤t:=ht
  rcases h with ⟨h1,h⟩ | ⟨h1,u,v,e,h2,h⟩
  ·exact .inl ⟨h1,pump_rc hd.1 p t (by omega) h⟩
  ·obtain ⟨a,b,rfl,rfl,rfl⟩:=rep_split e
   right
   refine ⟨h1,?_⟩
   by_cases hx:Bp x≤a
   ·exact ⟨rp (a+D) c,rp b c,by rw [rep_join];congr 1;omega,pump_lg hd.1 a hx h2,h⟩
   ·exact ⟨rp a c,rp (b+D) c,by rw [rep_join];congr 1;omega,h2,pump_rc hd.2 _ b (by omega) h⟩
 | .al x y,hd,p,t,ht,h=>by
  have ht':Bp x+Bp y≤t:=ht
  rcases h with ⟨h1,h⟩ | ⟨h1,h⟩
  ·exact .inl ⟨h1,pump_rc hd.1 p t (by omega) h⟩
  ·exact .inr ⟨h1,pump_rc hd.2 _ t (by omega) h⟩
 | .st x,hd,p,t,ht,h=>by
  have ht':Bp x≤t:=ht
  obtain ⟨u,v,e,h2,h⟩:=h
  obtain ⟨a,b,rfl,rfl,rfl⟩:=rep_split e
  by_cases ha:0<a
  ·exact ⟨rp (a+D) c,rp b c,by rw [rep_join];congr 1;omega,star_pump hd ha h2,h⟩
  ·have:a=0:=by omega
   subst this
   exact ⟨[],rp (b+D) c,by rw [List.nil_append];congr 1;omega,.nil,pump_rc hd.1 p b (by omega) h⟩
theorem pump_many {c:Int} {D:Nat} {r:Rg} (hd:Dv c D r) (p t:Nat) (ht:Bp r≤t) (h:Rc r p (rp t c)):∀ q,Rc r p (rp (t+D*q) c)
 | 0=>by rw [Nat.mul_zero];exact h
 | q+1=>by
  have:=pump_rc hd p (t+D*q) (by omega) (pump_many hd p t ht h q)
  rw [Nat.mul_succ,←Nat.add_assoc];exact this
section
variable {k:Int} {l:List Nd}
theorem cnt_le (hok:∀ t,t<l.length→OkN k t (nd l t)):∀ t,t<l.length→cnt (tr l t)≤2 ^ hm (isB l) (t+1)∧Bp (tr l t)≤2*2 ^ hm (isB l) (t+1):=by
 intro t
 induction t using Nat.strongRecOn with
 | _ t ih =>
  intro ht
  have hp:=Nat.two_pow_pos (hm (isB l) (t+1))
  have two:∀ x y,x<t→y<t→isB l t→cnt (tr l x)+cnt (tr l y)≤2 ^ hm (isB l) (t+1)∧Bp (tr l x)+Bp (tr l y)≤2*2 ^ hm (isB l) (t+1):=by
   intro x y hx hy hb
   obtain ⟨a1,a2⟩:=ih x hx (by omega)
   obtain ⟨b1,b2⟩:=ih y hy (by omega)
   have e:=hm_yes hb
   have e1:=p2_up (hm_up (isB l) (show x+1≤t by omega))
   have e2:=p2_up (hm_up (isB l) (show y+1≤t by omega))
   have e3:=p2_dbl (a:=hm (isB l) t) (b:=hm (isB l) (t+1)) (by omega)
   omega
  rcases shape hok ht with ⟨h,e⟩ | ⟨h,e⟩ | ⟨h,e⟩ | ⟨h,x,y,_,_,hx,hy,e⟩ | ⟨h,x,y,_,_,hx,hy,e⟩ | ⟨h,x,_,hx,e⟩
  ·rw [e];exact ⟨by show 0≤_;omega,by show 1≤_;omega⟩
  ·rw [e];exact ⟨by show 0≤_;omega,by show 1≤_;omega⟩
  ·rw [e];exact ⟨by show 1≤_;omega,by show 2≤_;omega⟩
  ·rw [e];exact two x y hx hy (.inl h)
  ·rw [e];exact two x y hx hy (.inr h)
  ·rw [e]
   have:=ih x hx (by omega)
   have e1:=p2_up (hm_up (isB l) (show x+1≤t+1 by omega))
   exact ⟨by show cnt (tr l x)≤_;omega,by show Bp (tr l x)≤_;omega⟩
theorem small (hok:∀ t,t<l.length→OkN k t (nd l t)) (c:Int):∀ t,t<l.length→((∃ n,Lg (tr l t) (rp n c))→∃ n,n≤2 ^ hm (isB l) (t+1)∧Lg (tr l t) (rp n c))∧((∃ n,0<n∧Lg (tr l t) (rp n c))→∃ n,0<n∧n≤2 ^ hm (isB l) (t+1)∧Lg (tr l t) (rp n c)):=by
 intro t
 induction t using Nat.strongRecOn with
 | _ t ih =>
  intro ht
  have hp:=Nat.two_pow_pos (hm (isB l) (t+1))
  have kid:∀ x,x<t→isB l t→2 ^ hm (isB l) (x+1)+2 ^ hm (isB l) (x+1)≤2 ^ hm (isB l) (t+1):=by
   intro x hx hb
   have e:=hm_yes hb
   have e1:=hm_up (isB l) (show x+1≤t by omega)
   exact p2_dbl (by omega)
  rcases shape hok ht with ⟨h,e⟩ | ⟨h,e⟩ | ⟨h,e⟩ | ⟨h,x,y,_,_,hx,hy,e⟩ | ⟨h,x,y,_,_,hx,hy,e⟩ | ⟨h,x,_,hx,e⟩
  ·rw [e];exact ⟨fun ⟨n,hn⟩=>hn.elim,fun ⟨n,_,hn⟩=>hn.elim⟩
  ·rw [e]
   refine ⟨fun _=>⟨0,by omega,rfl⟩,fun ⟨n,h0,hn⟩=>?_⟩
   have h':rp n c=[]:=hn
   have:=congrArg List.length h'
   simp at this
   omega
  ·rw [e]
   have key:∀ n,Lg (.sy (nd l t).2.1) (rp n c)→n=1:=by
    intro n hn
    have h':rp n c=[(nd l t).2.1]:=hn
    have:=congrArg List.length h'
    simpa using this
   refine ⟨fun ⟨n,hn⟩=>⟨n,?_,hn⟩,fun ⟨n,h0,hn⟩=>⟨n,h0,?_,hn⟩⟩
   ·have:=key n hn;omega
   ·have:=key n hn;omega
  ·rw [e]
   have kx:=kid x hx (.inl h)
   have ky:=kid y hy (.inl h)
   have ex:=ih x hx (by omega)
   have ey:=ih y hy (by omega)
   refine ⟨fun ⟨n,u,v,en,h1,h2⟩=>?_,fun ⟨n,h0,u,v,en,h1,h2⟩=>?_⟩
   ·obtain ⟨a,b,rfl,rfl,rfl⟩:=rep_split en
    obtain ⟨n1,a1,a2⟩:=ex.1 ⟨a,h1⟩
    obtain ⟨n2,b1,b2⟩:=ey.1 ⟨b,h2⟩
    exact ⟨n1+n2,by omega,rp n1 c,rp n2 c,(rep_join _ _ _).symm,a2,b2⟩
   ·obtain ⟨a,b,rfl,rfl,rfl⟩:=rep_split en
    by_cases ha:0<a
    ·obtain ⟨n1,a0,a1,a2⟩:=ex.2 ⟨a,ha,h1⟩
     obtain ⟨n2,b1,b2⟩:=ey.1 ⟨b,h2⟩
     exact ⟨n1+n2,by omega,by omega,rp n1 c,rp n2 c,(rep_join _ _ _).symm,a2,b2⟩
    ·obtain ⟨n1,a1,a2⟩:=ex.1 ⟨a,h1⟩
     obtain ⟨n2,b0,b1,b2⟩:=ey.2 ⟨b,by omega,h2⟩
     exact ⟨n1+n2,by omega,by omega,rp n1 c,rp n2 c,(rep_join _ _ _).symm,a2,b2⟩
  ·rw [e]
   have kx:=kid x hx (.inr h)
   have ky:=kid y hy (.inr h)
   have ex:=ih x hx (by omega)
   have ey:=ih y hy (by omega)
   refine ⟨fun ⟨n,hn⟩=>?_,fun ⟨n,h0,hn⟩=>?_⟩
   ·rcases hn with hn | hn
    ·obtain ⟨n1,a1,a2⟩:=ex.1 ⟨n,hn⟩
     exact ⟨n1,by omega,.inl a2⟩
    ·obtain ⟨n1,a1,a2⟩:=ey.1 ⟨n,hn⟩
     exact ⟨n1,by omega,.inr a2⟩
   ·rcases hn with hn | hn
    ·obtain ⟨n1,a0,a1,a2⟩:=ex.2 ⟨n,h0,hn⟩
     exact ⟨n1,a0,by omega,.inl a2⟩
    ·obtain ⟨n1,a0,a1,a2⟩:=ey.2 ⟨n,h0,hn⟩
     exact ⟨n1,a0,by omega,.inr a2⟩
  ·rw [e]
   have ex:=ih x hx (by omega)
   have e1:=p2_up (hm_up (isB l) (show x+1≤t+1 by omega))
   refine ⟨fun _=>⟨0,by omega,.nil⟩,fun ⟨n,h0,hn⟩=>?_⟩
   obtain ⟨m,h1,h2⟩:=star_some hn n h0 rfl
   obtain ⟨n1,a0,a1,a2⟩:=ex.2 ⟨m,h1,h2⟩
   exact ⟨n1,a0,by omega,star_one a2⟩
theorem periods (hok:∀ t,t<l.length→OkN k t (nd l t)) (c:Int):∀ j,j≤l.length→∃ D,0<D∧D≤2 ^ (hm (isB l) j*hm (isSt l) j)∧∀ i,i<j→Dv c D (tr l i)
 | 0,_=>⟨1,by omega,Nat.two_pow_pos _,fun i hi=>by omega⟩
 | j+1,hj=>by
  obtain ⟨D,h0,h1,h2⟩:=periods hok c j (by omega)
  have mb:=hm_up (isB l) (show j≤j+1 by omega)
  have ms:=hm_up (isSt l) (show j≤j+1 by omega)
  have same:Dv c D (tr l j)→∃ D,0<D∧D≤2 ^ (hm (isB l) (j+1)*hm (isSt l) (j+1))∧∀ i,i<j+1→Dv c D (tr l i):=by
   intro hd
   refine ⟨D,h0,Nat.le_trans h1 (p2_up (Nat.mul_le_mul mb ms)),fun i hi=>?_⟩
   by_cases e:i=j
   ·subst e;exact hd
   ·exact h2 i (by omega)
  rcases shape hok (show j<l.length by omega) with ⟨h,e⟩ | ⟨h,e⟩ | ⟨h,e⟩ | ⟨h,x,y,_,_,hx,hy,e⟩ | ⟨h,x,y,_,_,hx,hy,e⟩ | ⟨h,x,_,hx,e⟩
  ·exact same (by rw [e];trivial)
  ·exact same (by rw [e];trivial)
  ·exact same (by rw [e];trivial)
  ·exact same (by rw [e];exact ⟨h2 x hx,h2 y hy⟩)
  ·exact same (by rw [e];exact ⟨h2 x hx,h2 y hy⟩)
  ·by_cases hpos:∃ n,0<n∧Lg (tr l x) (rp n c)
   ·obtain ⟨m,m0,m1,m2⟩:=(small hok c x (by omega)).2 hpos
    have es:=hm_yes (P:=isSt l) h
    refine ⟨D*m,Nat.mul_pos h0 m0,?_,fun i hi=>?_⟩
    ·have k1:=p2_up (hm_up (isB l) (show x+1≤j by omega))
     have k2:D*m≤2 ^ (hm (isB l) j*hm (isSt l) j)*2 ^ hm (isB l) j:=Nat.mul_le_mul h1 (by omega)
     rw [←Nat.pow_add] at k2
     refine Nat.le_trans k2 (p2_up ?_)
     rw [es]
     have:hm (isB l) j*hm (isSt l) j+hm (isB l) j=hm (isB l) j*(hm (isSt l) j+1):=by rw [Nat.mul_succ]
     rw [this]
     exact Nat.mul_le_mul mb (Nat.le_refl _)
    ·by_cases ei:i=j
     ·subst ei
      rw [e]
      exact ⟨(h2 x hx).mono (Nat.dvd_mul_right _ _),fun t ht hl=>⟨m,m0,Nat.dvd_mul_left _ _,m2⟩⟩
     ·exact (h2 i (by omega)).mono (Nat.dvd_mul_right _ _)
   ·refine same ?_
    rw [e]
    exact ⟨h2 x hx,fun t ht hl=>absurd ⟨t,ht,hl⟩ hpos⟩
theorem leaf0 (hg:Good k l):hm (isB l) l.length+hm (isSt l) l.length≤8:=by
 have h1:=hm_both (P:=isB l) (Q:=isSt l) (R:=fun t=>isB l t∨isSt l t) l.length (fun i _ h=>by
  have:=h.1;have:=h.2;unfold isB isSt at *;omega) (fun i _ h=>h)
 have h2:=hm_lt (P:=fun t=>isB l t∨isSt l t) (Q:=fun _=>True) l.length (fun _ _ _=>trivial) 0 (by have:=hg.len;omega) trivial (by
  have:=refs (hg.ok 0 (by have:=hg.len;omega))
  intro h
  unfold isB isSt at h
  rcases h with (h | h) | h
  ·have:=this.1 (.inl h);omega
  ·have:=this.1 (.inr h);omega
  ·have:=this.2 h;omega)
 have h3:=hm_le (fun _=>True) l.length
 have:=hg.len
 omega
theorem mul_small {a b:Nat} (h:a+b≤8):a*b≤16:=by
 have ha:a=0∨a=1∨a=2∨a=3∨a=4∨a=5∨a=6∨a=7∨a=8:=by omega
 rcases ha with rfl | rfl | rfl | rfl | rfl | rfl | rfl | rfl | rfl <;> omega
theorem rep_of {w:List Int} {c:Int} (h:∀ s∈w,s=c):w=rp w.length c:=by
 induction w with
 | nil=>rfl
 | cons s w ih =>
  have h1:=h s List.mem_cons_self
  have h2:=ih fun x hx=>h x (List.mem_cons_of_mem _ hx)
  show s::w=List.replicate (w.length+1) c
  rw [List.replicate_succ,h1]
  exact congrArg _ h2
abbrev rt (l:List Nd):Rg:=tr l (l.length-1)
def FewS (r:Rg) (M:Nat):Prop:=∃ code:List Int→Nat,(∀ w,(∃ p,Rc r p w)→code w<M)∧∀ w w',(∃ p,Rc r p w)→(∃ p,Rc r p w')→code w=code w'→∀ p,(Rc r p w↔Rc r p w')
theorem few_one (hg:Good k l) {c:Int} (hc:∀ s,Sg (rt l) s→s=c):FewS (rt l) 33555968:=by
 have hlen:=hg.len
 obtain ⟨D,d0,d1,d2⟩:=periods hg.ok c l.length (Nat.le_refl _)
 have hd:=d2 (l.length-1) (by omega)
 have hbs:=leaf0 hg
 have hD:D≤65536:=Nat.le_trans d1 (Nat.le_trans (p2_up (mul_small hbs)) (by decide))
 have hcb:cnt (rt l)≤2 ^ hm (isB l) l.length∧Bp (rt l)≤2*2 ^ hm (isB l) l.length:=by
  have:=cnt_le hg.ok (l.length-1) (by omega)
  rw [show l.length-1+1=l.length by omega] at this
  exact this
 have hp8:2 ^ hm (isB l) l.length≤256:=Nat.le_trans (p2_up (show _≤8 by omega)) (by decide)
 have hlet:∀ w,(∃ p,Rc (rt l) p w)→w=rp w.length c:=by
  rintro w ⟨p,hp⟩
  exact rep_of fun s hs=>hc s (rc_sg _ hp s hs)
 have hmle:∀ w,hm (fun p=>Rc (rt l) p w) (cnt (rt l))≤256:=fun w=>Nat.le_trans (hm_le _ _) (by omega)
 refine ⟨fun w=>if w.length<512 then w.length else 512+(w.length % D)*512+hm (fun p=>Rc (rt l) p w) (cnt (rt l)),fun w _=>?_,fun w w' hw hw' he=>?_⟩
 ·simp only
  have:=Nat.mod_lt w.length d0
  have:=hmle w
  split <;> omega
 ·simp only at he
  have e1:=hlet w hw
  have e2:=hlet w' hw'
  have m1:=hmle w
  have m2:=hmle w'
  have same:w.length=w'.length→∀ p,(Rc (rt l) p w↔Rc (rt l) p w'):=by
   intro h p
   have:w=w':=by rw [e1,e2,h]
   rw [this]
  have key:∀ u v:List Int,u=rp u.length c→v=rp v.length c→512≤u.length→u.length≤v.length→u.length % D=v.length % D→hm (fun p=>Rc (rt l) p u) (cnt (rt l))=hm (fun p=>Rc (rt l) p v) (cnt (rt l))→∀ p,(Rc (rt l) p u↔Rc (rt l) p v):=by
   intro u v eu ev h5 hle hmod hh
   have hq:∃ q,v.length=u.length+D*q:=by
    refine ⟨v.length / D-u.length / D,?_⟩
    have a1:=Nat.div_add_mod u.length D
    have a2:=Nat.div_add_mod v.length D
    have a3:u.length / D≤v.length / D:=Nat.div_le_div_right hle
    rw [Nat.mul_sub_left_distrib]
    have a4:D*(u.length / D)≤D*(v.length / D):=Nat.mul_le_mul_left _ a3
    omega
   obtain ⟨q,hq⟩:=hq
   have sub:∀ p,Rc (rt l) p u→Rc (rt l) p v:=by
    intro p hp
    rw [eu] at hp
    have:=pump_many (r:=rt l) hd p u.length (by omega) hp q
    rw [←hq,←ev] at this
    exact this
   intro p
   by_cases hpc:p<cnt (rt l)
   ·exact hm_eq (fun i _=>sub i) hh p hpc
   ·exact ⟨fun h=>absurd (rc_lt _ h) hpc,fun h=>absurd (rc_lt _ h) hpc⟩
  by_cases h1:w.length<512
  ·rw [if_pos h1] at he
   by_cases h2:w'.length<512
   ·rw [if_pos h2] at he;exact same he
   ·rw [if_neg h2] at he;omega
  ·rw [if_neg h1] at he
   by_cases h2:w'.length<512
   ·rw [if_pos h2] at he;omega
   ·rw [if_neg h2] at he
    have hmod:w.length % D=w'.length % D:=by omega
    have hh:hm (fun p=>Rc (rt l) p w) (cnt (rt l))=hm (fun p=>Rc (rt l) p w') (cnt (rt l)):=by omega
    by_cases hle:w.length≤w'.length
    ·exact key w w' e1 e2 (by omega) hle hmod hh
    ·exact fun p=>(key w' w e2 e1 (by omega) (by omega) hmod.symm hh.symm p).symm
end
end Rex
namespace Rex
open Classical in
noncomputable def bitsOf (P S:Nat→Prop):Nat→Nat
 | 0=>0
 | t+1=>if P t then 2*bitsOf P S t+(if S t then 1 else 0) else bitsOf P S t
theorem bits_lt (P S:Nat→Prop):∀ t,bitsOf P S t<2 ^ hm P t
 | 0=>by show 0<2 ^ 0;omega
 | t+1=>by
  have h:=bits_lt P S t
  by_cases hp:P t
  ·rw [hm_yes hp,Nat.pow_succ]
   unfold bitsOf
   rw [if_pos hp]
   split <;> omega
  ·rw [hm_no hp]
   unfold bitsOf
   rw [if_neg hp]
   exact h
theorem bits_inj (P S T:Nat→Prop):∀ t,bitsOf P S t=bitsOf P T t→∀ i,i<t→P i→(S i↔T i)
 | 0,_,i,hi,_=>by omega
 | t+1,h,i,hi,hpi=>by
  unfold bitsOf at h
  by_cases hp:P t
  ·rw [if_pos hp,if_pos hp] at h
   by_cases e:i=t
   ·subst e
    by_cases hs:S i
    ·rw [if_pos hs] at h
     by_cases ht:T i
     ·exact ⟨fun _=>ht,fun _=>hs⟩
     ·rw [if_neg ht] at h;omega
    ·rw [if_neg hs] at h
     by_cases ht:T i
     ·rw [if_pos ht] at h;omega
     ·exact ⟨fun h=>absurd h hs,fun h=>absurd h ht⟩
   ·refine bits_inj P S T t ?_ i (by omega) hpi
    split at h <;> split at h <;> omega
  ·rw [if_neg hp,if_neg hp] at h
   have:i≠t:=by intro e;subst e;exact hp hpi
   exact bits_inj P S T t h i (by omega) hpi
noncomputable def cs (c:Int) (r:Rg):Nat:=hm (fun p=>syr r p=c) (cnt r)
theorem hm_cut (P:Nat→Prop) (a:Nat):∀ b,hm P (a+b)=hm P a+hm (fun i=>P (a+i)) b
 | 0=>rfl
 | b+1=>by
  have h:=hm_cut P a b
  rw [←Nat.add_assoc]
  by_cases hp:P (a+b)
  ·rw [hm_yes hp,hm_yes (P:=fun i=>P (a+i)) hp,h];omega
  ·rw [hm_no hp,hm_no (P:=fun i=>P (a+i)) hp,h]
theorem hm_ext {P Q:Nat→Prop} {t:Nat} (h:∀ i,i<t→(P i↔Q i)):hm P t=hm Q t :=
 Nat.le_antisymm (hm_mono t fun i hi=>(h i hi).1) (hm_mono t fun i hi=>(h i hi).2)
theorem cs_two (c:Int) (x y:Rg):cs c (.ca x y)=cs c x+cs c y∧cs c (.al x y)=cs c x+cs c y:=by
 have key:hm (fun p=>(if p<cnt x then syr x p else syr y (p-cnt x))=c) (cnt x+cnt y)=cs c x+cs c y:=by
  rw [hm_cut]
  unfold cs
  congr 1
  ·exact hm_ext fun i hi=>by simp only [if_pos hi]
  ·refine hm_ext fun i hi=>?_
   simp only [if_neg (show ¬cnt x+i<cnt x by omega),Nat.add_sub_cancel_left]
 exact ⟨key,key⟩
section
variable {k:Int} {l:List Nd}
def oth (l:List Nd) (c:Int) (t:Nat):Prop:=∃ s,s≠c∧Sg (tr l t) s
def bO (l:List Nd) (c:Int) (t:Nat):Prop:=isB l t∧oth l c t
theorem bo_le (c:Int) (t:Nat):hm (bO l c) t≤hm (isB l) t:=hm_mono t fun _ _ h=>h.1
theorem few_signs (hok:∀ t,t<l.length→OkN k t (nd l t)) (c:Int):∀ t,t<l.length→cs c (tr l t)≤2 ^ hm (isB l) (t+1)∧(¬oth l c t→cs c (tr l t)≤2 ^ (hm (isB l) (t+1)-hm (bO l c) (t+1)))∧(oth l c t→(hm (bO l c) (t+1)=0→cs c (tr l t)=0)∧2*cs c (tr l t)≤2 ^ hm (isB l) (t+1)):=by
 intro t
 induction t using Nat.strongRecOn with
 | _ t ih =>
  intro ht
  have hp:=Nat.two_pow_pos (hm (isB l) (t+1))
  have hp2:=Nat.two_pow_pos (hm (isB l) (t+1)-hm (bO l c) (t+1))
  have two:∀ x y,x<t→y<t→isB l t→(∀ s,Sg (tr l t) s↔Sg (tr l x) s∨Sg (tr l y) s)→cs c (tr l t)=cs c (tr l x)+cs c (tr l y)→cs c (tr l t)≤2 ^ hm (isB l) (t+1)∧(¬oth l c t→cs c (tr l t)≤2 ^ (hm (isB l) (t+1)-hm (bO l c) (t+1)))∧(oth l c t→(hm (bO l c) (t+1)=0→cs c (tr l t)=0)∧2*cs c (tr l t)≤2 ^ hm (isB l) (t+1)):=by
   intro x y hx hy hb hs he
   obtain ⟨a1,a2,a3⟩:=ih x hx (by omega)
   obtain ⟨b1,b2,b3⟩:=ih y hy (by omega)
   have e:=hm_yes hb
   have ux:=hm_up (isB l) (show x+1≤t by omega)
   have uy:=hm_up (isB l) (show y+1≤t by omega)
   have ux':=hm_up (bO l c) (show x+1≤t by omega)
   have uy':=hm_up (bO l c) (show y+1≤t by omega)
   have e1:=p2_up ux
   have e2:=p2_up uy
   have e3:=p2_dbl (a:=hm (isB l) t) (b:=hm (isB l) (t+1)) (by omega)
   have bl:=bo_le (l:=l) c t
   have pure_up:∀ a b,a≤b→hm (isB l) a-hm (bO l c) a≤hm (isB l) b-hm (bO l c) b:=by
    intro a b hab
    obtain ⟨d,rfl⟩:=Nat.le.dest hab
    clear hab
    induction d with
    | zero=>exact Nat.le_refl _
    | succ d ihd =>
     refine Nat.le_trans ihd ?_
     rw [←Nat.add_assoc]
     have h1:=bo_le (l:=l) c (a+d)
     by_cases hbo:bO l c (a+d)
     ·rw [hm_yes hbo,hm_yes hbo.1];omega
     ·rw [hm_no hbo]
      have:=hm_step (isB l) (a+d)
      omega
   refine ⟨by omega,fun hn=>?_,fun ho=>?_⟩
   ·have nb:¬bO l c t:=fun h=>hn h.2
    have nx:¬oth l c x:=fun ⟨s,h1,h2⟩=>hn ⟨s,h1,(hs s).2 (.inl h2)⟩
    have ny:¬oth l c y:=fun ⟨s,h1,h2⟩=>hn ⟨s,h1,(hs s).2 (.inr h2)⟩
    have a2:=a2 nx
    have b2:=b2 ny
    have c1:=p2_up (pure_up (x+1) t (by omega))
    have c2:=p2_up (pure_up (y+1) t (by omega))
    have c3:=p2_dbl (a:=hm (isB l) t-hm (bO l c) t) (b:=hm (isB l) (t+1)-hm (bO l c) (t+1)) (by rw [e,hm_no nb];omega)
    omega
   ·have yb:bO l c t:=⟨hb,ho⟩
    have eo:=hm_yes yb
    refine ⟨fun h=>by omega,?_⟩
    have main:∀ u v,u<t→v<t→cs c (tr l t)=cs c (tr l u)+cs c (tr l v)→oth l c u→2*cs c (tr l t)≤2 ^ hm (isB l) (t+1):=by
     intro u v hu hv huv hou
     obtain ⟨u1,u2,u3⟩:=ih u hu (by omega)
     obtain ⟨v1,v2,v3⟩:=ih v hv (by omega)
     have w1:=p2_up (hm_up (isB l) (show u+1≤t by omega))
     have w2:=p2_up (hm_up (isB l) (show v+1≤t by omega))
     obtain ⟨u4,u5⟩:=u3 hou
     by_cases hov:oth l c v
     ·have:=v3 hov
      omega
     ·have v2:=v2 hov
      have c2:=p2_up (pure_up (v+1) t (by omega))
      by_cases hq:hm (bO l c) (u+1)=0
      ·have:=u4 hq
       omega
      ·have w3:=hm_up (bO l c) (show u+1≤t by omega)
       have:=p2_dbl (a:=hm (isB l) t-hm (bO l c) t) (b:=hm (isB l) t) (by omega)
       omega
    obtain ⟨s,h1,h2⟩:=ho
    rcases (hs s).1 h2 with h2 | h2
    ·exact main x y hx hy he ⟨s,h1,h2⟩
    ·exact main y x hy hx (by omega) ⟨s,h1,h2⟩
  rcases shape hok ht with ⟨h,e⟩ | ⟨h,e⟩ | ⟨h,e⟩ | ⟨h,x,y,_,_,hx,hy,e⟩ | ⟨h,x,y,_,_,hx,hy,e⟩ | ⟨h,x,_,hx,e⟩
  ·have:cs c (tr l t)=0:=by rw [e];rfl
   exact ⟨by omega,fun _=>by omega,fun _=>⟨fun _=>this,by omega⟩⟩
  ·have:cs c (tr l t)=0:=by rw [e];rfl
   exact ⟨by omega,fun _=>by omega,fun _=>⟨fun _=>this,by omega⟩⟩
  ·have h1:cs c (tr l t)≤1:=by rw [e];exact hm_le _ 1
   refine ⟨by omega,fun _=>by omega,fun ⟨s,h2,h3⟩=>?_⟩
   have:cs c (tr l t)=0:=by
    rw [e] at h3 ⊢
    obtain ⟨q,_,h4⟩:=h3
    have h4':(nd l t).2.1=s:=h4
    unfold cs
    show hm (fun p=>(nd l t).2.1=c) 1=0
    rw [hm_no (by rw [h4'];exact h2)]
    rfl
   exact ⟨fun _=>this,by omega⟩
  ·exact two x y hx hy (.inl h) (fun s=>by rw [e];exact ⟨fun h=>sg_or (.inl h),fun h=>h.elim (fun h=>(sg_left h).1) (fun h=>(sg_right h).1)⟩) (by rw [e];exact (cs_two _ _ _).1)
  ·exact two x y hx hy (.inr h) (fun s=>by rw [e];exact ⟨fun h=>sg_or (.inr h),fun h=>h.elim (fun h=>(sg_left h).2) (fun h=>(sg_right h).2)⟩) (by rw [e];exact (cs_two _ _ _).2)
  ·have nb:¬isB l t:=by unfold isB;omega
   have nbo:¬bO l c t:=fun h=>nb h.1
   have ec:cs c (tr l t)=cs c (tr l x):=by rw [e];rfl
   have eo:oth l c t↔oth l c x:=by unfold oth;rw [e];exact Iff.rfl
   obtain ⟨a1,a2,a3⟩:=ih x hx (by omega)
   have ux:=hm_up (isB l) (show x+1≤t+1 by omega)
   have ux':=hm_up (bO l c) (show x+1≤t+1 by omega)
   have e1:=p2_up ux
   rw [ec,eo]
   refine ⟨by omega,fun hn=>?_,fun ho=>?_⟩
   ·refine Nat.le_trans (a2 hn) (p2_up ?_)
    have pure_up:∀ a d,hm (isB l) a-hm (bO l c) a≤hm (isB l) (a+d)-hm (bO l c) (a+d):=by
     intro a d
     induction d with
     | zero=>exact Nat.le_refl _
     | succ d ihd =>
      refine Nat.le_trans ihd ?_
      rw [←Nat.add_assoc]
      have h1:=bo_le (l:=l) c (a+d)
      by_cases hbo:bO l c (a+d)
      ·rw [hm_yes hbo,hm_yes hbo.1];omega
      ·rw [hm_no hbo]
       have:=hm_step (isB l) (a+d)
       omega
    have:=pure_up (x+1) (t-x)
    rw [show x+1+(t-x)=t+1 by omega] at this
    exact this
   ·have:=a3 ho
    exact ⟨fun h=>this.1 (by omega),by omega⟩
theorem sg_in (hok:∀ t,t<l.length→OkN k t (nd l t)):∀ t,t<l.length→∀ s,Sg (tr l t) s→∃ j,j≤t∧(nd l j).1=3∧(nd l j).2.1=s:=by
 intro t
 induction t using Nat.strongRecOn with
 | _ t ih =>
  intro ht s hs
  rcases shape hok ht with ⟨h,e⟩ | ⟨h,e⟩ | ⟨h,e⟩ | ⟨h,x,y,_,_,hx,hy,e⟩ | ⟨h,x,y,_,_,hx,hy,e⟩ | ⟨h,x,_,hx,e⟩
  ·rw [e] at hs;obtain ⟨q,h1,_⟩:=hs;exact absurd h1 (Nat.not_lt_zero _)
  ·rw [e] at hs;obtain ⟨q,h1,_⟩:=hs;exact absurd h1 (Nat.not_lt_zero _)
  ·rw [e] at hs;obtain ⟨q,h1,h2⟩:=hs;exact ⟨t,Nat.le_refl _,h,h2⟩
  ·rw [e] at hs
   rcases sg_or (.inl hs) with hs | hs
   ·obtain ⟨j,h1,h2⟩:=ih x hx (by omega) s hs;exact ⟨j,by omega,h2⟩
   ·obtain ⟨j,h1,h2⟩:=ih y hy (by omega) s hs;exact ⟨j,by omega,h2⟩
  ·rw [e] at hs
   rcases sg_or (.inr hs) with hs | hs
   ·obtain ⟨j,h1,h2⟩:=ih x hx (by omega) s hs;exact ⟨j,by omega,h2⟩
   ·obtain ⟨j,h1,h2⟩:=ih y hy (by omega) s hs;exact ⟨j,by omega,h2⟩
  ·rw [e] at hs
   obtain ⟨j,h1,h2⟩:=ih x hx (by omega) s hs;exact ⟨j,by omega,h2⟩
theorem sg_lt (hg:Good k l) {s:Int} (hs:Sg (rt l) s):0≤s∧s<3:=by
 have:=hg.len
 have:=hg.sym
 obtain ⟨j,h1,h2,h3⟩:=sg_in hg.ok (l.length-1) (by omega) s hs
 have:=hg.ok j (by omega)
 unfold OkN at this
 omega
def endOf (w:List Int):Int:=w.getLastD 0
theorem end_snoc (u:List Int) (c:Int):endOf (u++[c])=c:=by
 unfold endOf;simp
theorem few_two (hg:Good k l) {a b:Int} (hab:a≠b) (ha:Sg (rt l) a) (hb:Sg (rt l) b) (h6:hm (isB l) l.length≤6):FewS (rt l) (3*2 ^ 32):=by
 have hlen:=hg.len
 have h32:∀ c,cs c (rt l)≤32:=by
  intro c
  have ho:oth l c (l.length-1):=by
   by_cases e:a=c
   ·exact ⟨b,fun h=>hab (by omega),hb⟩
   ·exact ⟨a,e,ha⟩
  have:2*cs c (rt l)≤2 ^ hm (isB l) (l.length-1+1):=((few_signs hg.ok c (l.length-1) (by omega)).2.2 ho).2
  rw [show l.length-1+1=l.length by omega] at this
  have h2:=p2_up h6
  rw [show (2:Nat) ^ 6=64 from rfl] at h2
  omega
 refine ⟨fun w=>(endOf w).toNat*2 ^ 32+bitsOf (fun p=>syr (rt l) p=endOf w) (fun p=>Rc (rt l) p w) (cnt (rt l)),fun w ⟨p,hp⟩=>?_,fun w w' ⟨p,hp⟩ ⟨p',hp'⟩ he=>?_⟩
 ·obtain ⟨u,hu⟩:=rc_last _ hp
  have e:endOf w=syr (rt l) p:=by rw [hu];exact end_snoc _ _
  have h1:=sg_lt hg (s:=endOf w) ⟨p,rc_lt _ hp,e.symm⟩
  have h2:=bits_lt (fun p=>syr (rt l) p=endOf w) (fun p=>Rc (rt l) p w) (cnt (rt l))
  have h3:=p2_up (h32 (endOf w))
  unfold cs at h3
  simp only
  omega
 ·simp only at he
  obtain ⟨u,hu⟩:=rc_last _ hp
  obtain ⟨u',hu'⟩:=rc_last _ hp'
  have e:endOf w=syr (rt l) p:=by rw [hu];exact end_snoc _ _
  have e':endOf w'=syr (rt l) p':=by rw [hu'];exact end_snoc _ _
  have h1:=sg_lt hg (s:=endOf w) ⟨p,rc_lt _ hp,e.symm⟩
  have h1':=sg_lt hg (s:=endOf w') ⟨p',rc_lt _ hp',e'.symm⟩
  have h2:=bits_lt (fun p=>syr (rt l) p=endOf w) (fun p=>Rc (rt l) p w) (cnt (rt l))
  have h2':=bits_lt (fun p=>syr (rt l) p=endOf w') (fun p=>Rc (rt l) p w') (cnt (rt l))
  have h3:=p2_up (h32 (endOf w))
  have h3':=p2_up (h32 (endOf w'))
  unfold cs at h3 h3'
  have ee:endOf w=endOf w':=by omega
  rw [ee] at he h2 h3
  have hb:=bits_inj _ _ _ _ (show bitsOf (fun p=>syr (rt l) p=endOf w') (fun p=>Rc (rt l) p w) (cnt (rt l))=bitsOf (fun p=>syr (rt l) p=endOf w') (fun p=>Rc (rt l) p w') (cnt (rt l)) by omega)
  intro q
  by_cases hq:q<cnt (rt l)
  ·by_cases hs:syr (rt l) q=endOf w'
   ·exact hb q hq hs
   ·constructor
    ·intro h
     obtain ⟨v,hv⟩:=rc_last _ h
     exact absurd (by rw [←ee,hv];exact (end_snoc _ _).symm) hs
    ·intro h
     obtain ⟨v,hv⟩:=rc_last _ h
     exact absurd (by rw [hv];exact (end_snoc _ _).symm) hs
  ·exact ⟨fun h=>absurd (rc_lt _ h) hq,fun h=>absurd (rc_lt _ h) hq⟩
end
end Rex
namespace Rex
/-! ### trees without stars and without the empty set -/
def Pl:Rg→Prop
 | .no=>False
 | .ep=>False
 | .sy _=>True
 | .ca x y=>Pl x∧Pl y
 | .al x y=>Pl x∧Pl y
 | .st _=>False
theorem pl_some:∀ {r:Rg},Pl r→∃ w,Lg r w
 | .no,h=>h.elim
 | .ep,h=>h.elim
 | .sy a,_=>⟨[a],rfl⟩
 | .ca x y,h=>by
  obtain ⟨u,hu⟩:=pl_some h.1
  obtain ⟨v,hv⟩:=pl_some h.2
  exact ⟨u++v,u,v,rfl,hu,hv⟩
 | .al x y,h=>by
  obtain ⟨u,hu⟩:=pl_some h.1
  exact ⟨u,.inl hu⟩
 | .st _,h=>h.elim
theorem rc_begins:∀ {r:Rg},Pl r→∀ {p:Nat} {w:List Int},Rc r p w→∃ v,Lg r (w++v)
 | .no,h,_,_,_=>h.elim
 | .ep,h,_,_,_=>h.elim
 | .sy a,_,p,w,hr=>⟨[],by rw [hr.2];rfl⟩
 | .ca x y,h,p,w,hr=>by
  rcases hr with ⟨_,hr⟩ | ⟨_,u,v,rfl,h2,hr⟩
  ·obtain ⟨v,hv⟩:=rc_begins h.1 hr
   obtain ⟨z,hz⟩:=pl_some h.2
   exact ⟨v++z,w++v,z,by rw [List.append_assoc],hv,hz⟩
  ·obtain ⟨z,hz⟩:=rc_begins h.2 hr
   exact ⟨z,u,v++z,by rw [List.append_assoc],h2,hz⟩
 | .al x y,h,p,w,hr=>by
  rcases hr with ⟨_,hr⟩ | ⟨_,hr⟩
  ·obtain ⟨v,hv⟩:=rc_begins h.1 hr
   exact ⟨v,.inl hv⟩
  ·obtain ⟨v,hv⟩:=rc_begins h.2 hr
   exact ⟨v,.inr hv⟩
 | .st _,h,_,_,_=>h.elim
def mx:Rg→Nat
 | .no=>0
 | .ep=>0
 | .sy _=>1
 | .ca x y=>mx x+mx y
 | .al x y=>max (mx x) (mx y)
 | .st _=>0
theorem lg_mx:∀ {r:Rg},Pl r→∀ {w:List Int},Lg r w→w.length≤mx r
 | .no,h,_,_=>h.elim
 | .ep,h,_,_=>h.elim
 | .sy a,_,w,hw=>by
  have:w=[a]:=hw
  rw [this];exact Nat.le_refl _
 | .ca x y,h,w,hw=>by
  obtain ⟨u,v,rfl,h1,h2⟩:=hw
  have:=lg_mx h.1 h1
  have:=lg_mx h.2 h2
  rw [List.length_append]
  show _≤mx x+mx y
  omega
 | .al x y,h,w,hw=>by
  show _≤max (mx x) (mx y)
  rcases hw with hw | hw
  ·have:=lg_mx h.1 hw;omega
  ·have:=lg_mx h.2 hw;omega
 | .st _,h,_,_=>h.elim
theorem rc_mx {r:Rg} (h:Pl r) {p:Nat} {w:List Int} (hr:Rc r p w):w.length≤mx r:=by
 obtain ⟨v,hv⟩:=rc_begins h hr
 have:=lg_mx h hv
 rw [List.length_append] at this
 omega
/-! ### words as numbers -/
def wcode (c:Int):List Int→Nat
 | []=>1
 | s::w=>2*wcode c w+if s=c then 1 else 0
theorem wcode_lt (c:Int):∀ w,2 ^ w.length≤wcode c w∧wcode c w<2 ^ (w.length+1)
 | []=>by show 2 ^ 0≤1∧1<2 ^ 1;omega
 | s::w=>by
  have:=wcode_lt c w
  have e1:(2:Nat) ^ (w.length+1)=2 ^ w.length*2:=Nat.pow_succ ..
  have e2:(2:Nat) ^ (w.length+1+1)=2 ^ (w.length+1)*2:=Nat.pow_succ ..
  show 2 ^ (w.length+1)≤2*wcode c w+(if s=c then 1 else 0)∧2*wcode c w+(if s=c then 1 else 0)<2 ^ (w.length+1+1)
  split <;> omega
theorem wcode_pos (c:Int) (w:List Int):1≤wcode c w:=Nat.le_trans (Nat.two_pow_pos _) (wcode_lt c w).1
theorem wcode_inj {c d:Int} : ∀ (w v:List Int),(∀ s∈w,s=c∨s=d)→(∀ s∈v,s=c∨s=d)→wcode c w=wcode c v→w=v
 | [],[],_,_,_=>rfl
 | [],t::v,_,_,h=>by
  have:=wcode_pos c v
  have h':1=2*wcode c v+(if t=c then 1 else 0):=h
  split at h' <;> omega
 | s::w,[],_,_,h=>by
  have:=wcode_pos c w
  have h':2*wcode c w+(if s=c then 1 else 0)=1:=h
  split at h' <;> omega
 | s::w,t::v,hw,hv,h=>by
  have h':2*wcode c w+(if s=c then 1 else 0)=2*wcode c v+(if t=c then 1 else 0):=h
  have hs:=hw s List.mem_cons_self
  have ht:=hv t List.mem_cons_self
  have e:wcode c w=wcode c v:=by split at h' <;> split at h' <;> omega
  have e2:=wcode_inj w v (fun x hx=>hw x (List.mem_cons_of_mem _ hx)) (fun x hx=>hv x (List.mem_cons_of_mem _ hx)) e
  have e3:s=t:=by
   rcases hs with hs | hs <;> rcases ht with ht | ht
   ·rw [hs,ht]
   ·by_cases x:t=c
    ·rw [hs,x]
    ·rw [if_pos hs,if_neg x] at h';omega
   ·by_cases x:s=c
    ·rw [ht,x]
    ·rw [if_neg x,if_pos ht] at h';omega
   ·rw [hs,ht]
  rw [e2,e3]
theorem few_short {r:Rg} (h:Pl r) {c d:Int} (hcd:∀ s,Sg r s→s=c∨s=d) {n:Nat} (hn:mx r≤n):FewS r (2 ^ (n+1)):=by
 refine ⟨wcode c,fun w ⟨p,hp⟩=>?_,fun w w' ⟨p,hp⟩ ⟨p',hp'⟩ he=>?_⟩
 ·have h1:=rc_mx h hp
  exact Nat.lt_of_lt_of_le (wcode_lt c w).2 (p2_up (by omega))
 ·have:w=w':=wcode_inj (c:=c) (d:=d) w w' (fun s hs=>hcd s (rc_sg r hp s hs)) (fun s hs=>hcd s (rc_sg r hp' s hs)) he
  rw [this];exact fun p=>Iff.rfl
/-! ### few words -/
def FewW (r:Rg) (M:Nat):Prop:=∃ code:List Int→Nat,(∀ w,Lg r w→code w<M)∧∀ w w',Lg r w→Lg r w'→code w=code w'→w=w'
theorem FewW.mono {r:Rg} {M N:Nat} (h:FewW r M) (hmn:M≤N):FewW r N:=by
 obtain ⟨f,h1,h2⟩:=h
 exact ⟨f,fun w hw=>Nat.lt_of_lt_of_le (h1 w hw) hmn,h2⟩
theorem fewW_sy (a:Int):FewW (.sy a) 1:=⟨fun _=>0,fun _ _=>Nat.zero_lt_one,fun w w' (h:w=[a]) (h':w'=[a]) _=>by rw [h,h']⟩
open Classical in
theorem fewW_al {x y:Rg} {M N:Nat} (hx:FewW x M) (hy:FewW y N):FewW (.al x y) (M+N):=by
 obtain ⟨f,f1,f2⟩:=hx
 obtain ⟨g,g1,g2⟩:=hy
 refine ⟨fun w=>if Lg x w then f w else M+g w,fun w hw=>?_,fun w w' hw hw' he=>?_⟩
 ·simp only
  by_cases h:Lg x w
  ·rw [if_pos h];have:=f1 w h;omega
  ·rw [if_neg h];have:=g1 w (hw.resolve_left h);omega
 ·simp only at he
  by_cases h:Lg x w
  ·rw [if_pos h] at he
   by_cases h':Lg x w'
   ·rw [if_pos h'] at he;exact f2 w w' h h' he
   ·rw [if_neg h'] at he;have:=f1 w h;omega
  ·rw [if_neg h] at he
   by_cases h':Lg x w'
   ·rw [if_pos h'] at he;have:=f1 w' h';omega
   ·rw [if_neg h'] at he;exact g2 w w' (hw.resolve_left h) (hw'.resolve_left h') (by omega)
open Classical in
theorem fewW_ca {x y:Rg} {M N:Nat} (hx:FewW x M) (hy:FewW y N):FewW (.ca x y) (M*N):=by
 obtain ⟨f,f1,f2⟩:=hx
 obtain ⟨g,g1,g2⟩:=hy
 have pick:∀ w,∃ uv:List Int×List Int,Lg (.ca x y) w→w=uv.1++uv.2∧Lg x uv.1∧Lg y uv.2:=by
  intro w
  by_cases h:Lg (.ca x y) w
  ·obtain ⟨u,v,e,h1,h2⟩:=h
   exact ⟨(u,v),fun _=>⟨e,h1,h2⟩⟩
  ·exact ⟨([],[]),fun h'=>absurd h' h⟩
 obtain ⟨sp,hsp⟩:∃ sp:List Int→List Int×List Int,∀ w,Lg (.ca x y) w→w=(sp w).1++(sp w).2∧Lg x (sp w).1∧Lg y (sp w).2 :=
  ⟨fun w=>(pick w).choose,fun w=>(pick w).choose_spec⟩
 refine ⟨fun w=>f (sp w).1*N+g (sp w).2,fun w hw=>?_,fun w w' hw hw' he=>?_⟩
 ·obtain ⟨_,h1,h2⟩:=hsp w hw
  have a:=f1 _ h1
  have b:=g1 _ h2
  simp only
  have:(f (sp w).1+1)*N≤M*N:=Nat.mul_le_mul_right _ a
  rw [Nat.succ_mul] at this
  omega
 ·simp only at he
  obtain ⟨e,h1,h2⟩:=hsp w hw
  obtain ⟨e',h1',h2'⟩:=hsp w' hw'
  have b:=g1 _ h2
  have b':=g1 _ h2'
  have m1:(f (sp w).1*N+g (sp w).2) / N=f (sp w).1:=by
   rw [Nat.add_comm,Nat.mul_comm,Nat.add_mul_div_left _ _ (by omega),Nat.div_eq_of_lt b,Nat.zero_add]
  have m2:(f (sp w').1*N+g (sp w').2) / N=f (sp w').1:=by
   rw [Nat.add_comm,Nat.mul_comm,Nat.add_mul_div_left _ _ (by omega),Nat.div_eq_of_lt b',Nat.zero_add]
  rw [he] at m1
  have ef:f (sp w).1=f (sp w').1:=m1.symm.trans m2
  rw [ef] at he
  have eg:g (sp w).2=g (sp w').2:=by omega
  rw [e,e',f2 _ _ h1 h1' ef,g2 _ _ h2 h2' eg]
theorem few_words {r:Rg} (h:Pl r) {M n:Nat} (hw:FewW r M) (hn:mx r≤n):FewS r (M*(n+1)):=by
 obtain ⟨f,f1,f2⟩:=hw
 have pick:∀ w,∃ v,(∃ p,Rc r p w)→Lg r (w++v):=by
  intro w
  by_cases hp:∃ p,Rc r p w
  ·obtain ⟨p,hp⟩:=hp
   obtain ⟨v,hv⟩:=rc_begins h hp
   exact ⟨v,fun _=>hv⟩
  ·exact ⟨[],fun h'=>absurd h' hp⟩
 obtain ⟨co,hco⟩:∃ co:List Int→List Int,∀ w,(∃ p,Rc r p w)→Lg r (w++co w) :=
  ⟨fun w=>(pick w).choose,fun w=>(pick w).choose_spec⟩
 refine ⟨fun w=>f (w++co w)*(n+1)+w.length,fun w hp=>?_,fun w w' hp hp' he=>?_⟩
 ·have a:=f1 _ (hco w hp)
  obtain ⟨p,hp⟩:=hp
  have b:=rc_mx h hp
  simp only
  have:(f (w++co w)+1)*(n+1)≤M*(n+1):=Nat.mul_le_mul_right _ a
  rw [Nat.succ_mul] at this
  omega
 ·simp only at he
  have hl:=hco w hp
  have hl':=hco w' hp'
  obtain ⟨p,hp⟩:=hp
  obtain ⟨p',hp'⟩:=hp'
  have b:=rc_mx h hp
  have b':=rc_mx h hp'
  have m1:(f (w++co w)*(n+1)+w.length) / (n+1)=f (w++co w):=by
   rw [Nat.add_comm,Nat.mul_comm,Nat.add_mul_div_left _ _ (by omega),Nat.div_eq_of_lt (by omega),Nat.zero_add]
  have m2:(f (w'++co w')*(n+1)+w'.length) / (n+1)=f (w'++co w'):=by
   rw [Nat.add_comm,Nat.mul_comm,Nat.add_mul_div_left _ _ (by omega),Nat.div_eq_of_lt (by omega),Nat.zero_add]
  rw [he] at m1
  have ef:f (w++co w)=f (w'++co w'):=m1.symm.trans m2
  rw [ef] at he
  have el:w.length=w'.length:=by omega
  have e:=f2 _ _ hl hl' ef
  have:w=w':=by
   have:=congrArg (List.take w.length) e
   rw [List.take_left' rfl,List.take_left' el.symm] at this
   exact this
  rw [this];exact fun p=>Iff.rfl
/-! ### expressions whose positions have one time each -/
def ln:Rg→Nat
 | .no=>0
 | .ep=>0
 | .sy _=>1
 | .ca x y=>ln x+ln y
 | .al x _=>ln x
 | .st _=>0
def tm:Rg→Nat→Nat
 | .no,_=>0
 | .ep,_=>0
 | .sy _,_=>1
 | .ca x y,p=>if p<cnt x then tm x p else ln x+tm y (p-cnt x)
 | .al x y,p=>if p<cnt x then tm x p else tm y (p-cnt x)
 | .st x,p=>tm x p
structure Timed (r:Rg):Prop where
 lg:∀ w,Lg r w→w.length=ln r
 rc:∀ p w,Rc r p w→w.length=tm r p
 rng:∀ p,p<cnt r→1≤tm r p∧tm r p≤ln r
 same:∀ p q w,Rc r p w→q<cnt r→tm r q=tm r p→syr r q=syr r p→Rc r q w
theorem timed_sy (a:Int):Timed (.sy a):=by
 refine ⟨fun w (h:w=[a])=>by rw [h];rfl,fun p w h=>by rw [h.2];rfl,fun p _=>⟨Nat.le_refl _,Nat.le_refl _⟩,fun p q w h hq _ _=>?_⟩
 have hq':q<1:=hq
 exact ⟨by omega,h.2⟩
theorem timed_ca {x y:Rg} (hx:Timed x) (hy:Timed y):Timed (.ca x y):=by
 have t1:∀ p,p<cnt x→tm (.ca x y) p=tm x p∧syr (.ca x y) p=syr x p:=fun p h=>⟨if_pos h,if_pos h⟩
 have t2:∀ p,cnt x≤p→tm (.ca x y) p=ln x+tm y (p-cnt x)∧syr (.ca x y) p=syr y (p-cnt x):=fun p h=>⟨if_neg (by omega),if_neg (by omega)⟩
 refine ⟨fun w ⟨u,v,e,h1,h2⟩=>?_,fun p w h=>?_,fun p hp=>?_,fun p q w h hq ht hs=>?_⟩
 ·rw [e,List.length_append,hx.lg u h1,hy.lg v h2];rfl
 ·rcases h with ⟨h1,h⟩ | ⟨h1,u,v,e,h2,h⟩
  ·rw [(t1 p h1).1];exact hx.rc p w h
  ·rw [(t2 p h1).1,e,List.length_append,hx.lg u h2,hy.rc _ v h]
 ·have hp':p<cnt x+cnt y:=hp
  show _∧_≤ln x+ln y
  by_cases h:p<cnt x
  ·rw [(t1 p h).1];have:=hx.rng p h;omega
  ·rw [(t2 p (by omega)).1];have:=hy.rng (p-cnt x) (by omega);omega
 ·have hq':q<cnt x+cnt y:=hq
  rcases h with ⟨h1,h⟩ | ⟨h1,u,v,e,h2,h⟩
  ·rw [(t1 p h1).1] at ht
   rw [(t1 p h1).2] at hs
   have hr:=hx.rng p h1
   by_cases hqx:q<cnt x
   ·rw [(t1 q hqx).1] at ht
    rw [(t1 q hqx).2] at hs
    exact .inl ⟨hqx,hx.same p q w h hqx ht hs⟩
   ·rw [(t2 q (by omega)).1] at ht
    have:=hy.rng (q-cnt x) (by omega)
    omega
  ·rw [(t2 p h1).1] at ht
   rw [(t2 p h1).2] at hs
   have hr:=hy.rng _ (rc_lt y h)
   by_cases hqx:q<cnt x
   ·rw [(t1 q hqx).1] at ht
    have:=hx.rng q hqx
    omega
   ·rw [(t2 q (by omega)).1] at ht
    rw [(t2 q (by omega)).2] at hs
    exact .inr ⟨by omega,u,v,e,h2,hy.same _ _ v h (by omega) (by omega) hs⟩
theorem timed_al (a b:Int):Timed (.al (.sy a) (.sy b)):=by
 refine ⟨fun w h=>?_,fun p w h=>?_,fun p hp=>?_,fun p q w h hq ht hs=>?_⟩
 ·rcases h with h | h
  ·have h':w=[a]:=h
   rw [h'];rfl
  ·have h':w=[b]:=h
   rw [h'];rfl
 ·have e:∀ p,tm (.al (.sy a) (.sy b)) p=1:=by
   intro p
   show (if p<1 then 1 else 1)=1
   split <;> rfl
  rw [e]
  rcases h with ⟨_,h⟩ | ⟨_,h⟩
  ·rw [h.2];rfl
  ·rw [h.2];rfl
 ·have e:tm (.al (.sy a) (.sy b)) p=1:=by
   show (if p<1 then 1 else 1)=1
   split <;> rfl
  rw [e];exact ⟨Nat.le_refl _,Nat.le_refl _⟩
 ·have hq':q<2:=hq
  have hs':(if q<1 then a else b)=(if p<1 then a else b):=hs
  have key:w=[if p<1 then a else b]:=by
   rcases h with ⟨h1,h⟩ | ⟨h1,h⟩
   ·have:p<1:=h1
    rw [if_pos this];exact h.2
   ·have:¬p<1:=by have:1≤p:=h1;omega
    rw [if_neg this];exact h.2
  by_cases h0:q<1
  ·rw [if_pos h0] at hs'
   exact .inl ⟨h0,by omega,by rw [key,←hs']⟩
  ·rw [if_neg h0] at hs'
   exact .inr ⟨by show 1≤q;omega,by show q-1=0;omega,by rw [key,←hs']⟩
theorem few_timed {r:Rg} (h:Timed r) {n:Nat} (hn:ln r≤n) (hs:∀ s,Sg r s→0≤s∧s<3):FewS r (3*(n+1)):=by
 refine ⟨fun w=>w.length*3+(endOf w).toNat,fun w ⟨p,hp⟩=>?_,fun w w' ⟨p,hp⟩ ⟨p',hp'⟩ he=>?_⟩
 ·obtain ⟨u,hu⟩:=rc_last _ hp
  have e:endOf w=syr r p:=by rw [hu];exact end_snoc _ _
  have h1:=hs (endOf w) ⟨p,rc_lt _ hp,e.symm⟩
  have h2:=h.rc p w hp
  have h3:=h.rng p (rc_lt _ hp)
  simp only
  omega
 ·simp only at he
  have en:∀ p w,Rc r p w→endOf w=syr r p:=by
   intro p w hp
   obtain ⟨u,hu⟩:=rc_last _ hp
   rw [hu];exact end_snoc _ _
  have h1:=hs (endOf w) ⟨p,rc_lt _ hp,(en p w hp).symm⟩
  have h1':=hs (endOf w') ⟨p',rc_lt _ hp',(en p' w' hp').symm⟩
  have e1:w.length=w'.length:=by omega
  have e2:endOf w=endOf w':=by omega
  intro q
  constructor
  ·intro hq
   exact h.same p' q w' hp' (rc_lt _ hq) (by rw [←h.rc q w hq,←h.rc p' w' hp',e1]) (by rw [←en q w hq,←en p' w' hp',e2])
  ·intro hq
   exact h.same p q w hp (rc_lt _ hq) (by rw [←h.rc q w' hq,←h.rc p w hp,e1]) (by rw [←en q w' hq,←en p w hp,e2])
section
variable {k:Int} {l:List Nd}
def isC (l:List Nd) (t:Nat):Prop:=(nd l t).1=4
def isO (l:List Nd) (t:Nat):Prop:=(nd l t).1=5
def isL (l:List Nd) (t:Nat):Prop:=(nd l t).1=3
def Only (l:List Nd):Prop:=∀ t,t<l.length→isC l t∨isO l t∨isL l t
theorem only_pl (hok:∀ t,t<l.length→OkN k t (nd l t)) (ho:Only l):∀ t,t<l.length→Pl (tr l t)∧mx (tr l t)≤2 ^ hm (isC l) (t+1):=by
 intro t
 induction t using Nat.strongRecOn with
 | _ t ih =>
  intro ht
  have hp:=Nat.two_pow_pos (hm (isC l) (t+1))
  have hk:=ho t ht
  unfold isC isO isL at hk
  rcases shape hok ht with ⟨h,e⟩ | ⟨h,e⟩ | ⟨h,e⟩ | ⟨h,x,y,_,_,hx,hy,e⟩ | ⟨h,x,y,_,_,hx,hy,e⟩ | ⟨h,x,_,hx,e⟩
  ·omega
  ·omega
  ·rw [e];exact ⟨trivial,hp⟩
  ·rw [e]
   obtain ⟨a1,a2⟩:=ih x hx (by omega)
   obtain ⟨b1,b2⟩:=ih y hy (by omega)
   have e0:=hm_yes (P:=isC l) (t:=t) h
   have e1:=p2_up (hm_up (isC l) (show x+1≤t by omega))
   have e2:=p2_up (hm_up (isC l) (show y+1≤t by omega))
   have e3:=p2_dbl (a:=hm (isC l) t) (b:=hm (isC l) (t+1)) (by omega)
   exact ⟨⟨a1,b1⟩,by show mx _+mx _≤_;omega⟩
  ·rw [e]
   obtain ⟨a1,a2⟩:=ih x hx (by omega)
   obtain ⟨b1,b2⟩:=ih y hy (by omega)
   have e1:=p2_up (hm_up (isC l) (show x+1≤t+1 by omega))
   have e2:=p2_up (hm_up (isC l) (show y+1≤t+1 by omega))
   exact ⟨⟨a1,b1⟩,by show max (mx _) (mx _)≤_;omega⟩
  ·omega
theorem only_timed (hok:∀ t,t<l.length→OkN k t (nd l t)) (ho:Only l) (h1:∀ j,j<l.length→isO l j→hm (isB l) j=0):∀ t,t<l.length→Timed (tr l t)∧ln (tr l t)≤2 ^ hm (isC l) (t+1):=by
 intro t
 induction t using Nat.strongRecOn with
 | _ t ih =>
  intro ht
  have hp:=Nat.two_pow_pos (hm (isC l) (t+1))
  have hk:=ho t ht
  unfold isC isO isL at hk
  rcases shape hok ht with ⟨h,e⟩ | ⟨h,e⟩ | ⟨h,e⟩ | ⟨h,x,y,_,_,hx,hy,e⟩ | ⟨h,x,y,_,_,hx,hy,e⟩ | ⟨h,x,_,hx,e⟩
  ·omega
  ·omega
  ·rw [e];exact ⟨timed_sy _,hp⟩
  ·rw [e]
   obtain ⟨a1,a2⟩:=ih x hx (by omega)
   obtain ⟨b1,b2⟩:=ih y hy (by omega)
   have e0:=hm_yes (P:=isC l) (t:=t) h
   have e1:=p2_up (hm_up (isC l) (show x+1≤t by omega))
   have e2:=p2_up (hm_up (isC l) (show y+1≤t by omega))
   have e3:=p2_dbl (a:=hm (isC l) t) (b:=hm (isC l) (t+1)) (by omega)
   exact ⟨timed_ca a1 b1,by show ln _+ln _≤_;omega⟩
  ·rw [e]
   have hz:=h1 t ht h
   have leaf:∀ x,x<t→isL l x:=by
    intro x hx
    have hb:¬isB l x:=fun hb=>by have:=hm_in (P:=isB l) hb hx;omega
    have:=ho x (by omega)
    unfold isB at hb
    unfold isC isO at this
    rcases this with h | h | h
    ·exact absurd (.inl h) hb
    ·exact absurd (.inr h) hb
    ·exact h
   have sh:∀ x,x<t→tr l x=.sy (nd l x).2.1:=by
    intro x hx
    have hl:(nd l x).1=3:=leaf x hx
    rcases shape hok (show x<l.length by omega) with ⟨h,e⟩ | ⟨h,e⟩ | ⟨h,e⟩ | ⟨h,_,_,_,_,_,_,e⟩ | ⟨h,_,_,_,_,_,_,e⟩ | ⟨h,_,_,_,e⟩
    ·omega
    ·omega
    ·exact e
    ·omega
    ·omega
    ·omega
   rw [sh x hx,sh y hy]
   exact ⟨timed_al _ _,hp⟩
  ·omega
theorem only_words (hok:∀ t,t<l.length→OkN k t (nd l t)) (ho:Only l) {j:Nat} (hj:j<l.length) (hjo:isO l j) (h1:∀ i,i<l.length→isO l i→i=j):∀ t,t<l.length→(t<j→FewW (tr l t) 1)∧(j≤t→FewW (tr l t) (2 ^ 2 ^ (hm (isC l) (t+1)-hm (isC l) j))):=by
 intro t
 induction t using Nat.strongRecOn with
 | _ t ih =>
  intro ht
  have hk:=ho t ht
  unfold isC isO isL at hk
  have one:∀ r,FewW r 1→FewW r (2 ^ 2 ^ (hm (isC l) (t+1)-hm (isC l) j)):=fun r h=>h.mono (Nat.two_pow_pos _)
  have le:∀ x,x<t→FewW (tr l x) (2 ^ 2 ^ (hm (isC l) t-hm (isC l) j)):=by
   intro x hx
   obtain ⟨a1,a2⟩:=ih x hx (by omega)
   by_cases hxj:x<j
   ·exact (a1 hxj).mono (Nat.two_pow_pos _)
   ·refine (a2 (by omega)).mono (p2_up (p2_up ?_))
    have:=hm_up (isC l) (show x+1≤t by omega)
    omega
  rcases shape hok ht with ⟨h,e⟩ | ⟨h,e⟩ | ⟨h,e⟩ | ⟨h,x,y,_,_,hx,hy,e⟩ | ⟨h,x,y,_,_,hx,hy,e⟩ | ⟨h,x,_,hx,e⟩
  ·omega
  ·omega
  ·rw [e];exact ⟨fun _=>fewW_sy _,fun _=>one _ (fewW_sy _)⟩
  ·rw [e]
   refine ⟨fun htj=>?_,fun hjt=>?_⟩
   ·exact fewW_ca ((ih x hx (by omega)).1 (by omega)) ((ih y hy (by omega)).1 (by omega))
   ·refine (fewW_ca (le x hx) (le y hy)).mono ?_
    have e0:=hm_yes (P:=isC l) (t:=t) h
    have e1:=hm_up (isC l) hjt
    rw [←Nat.pow_add]
    exact p2_up (p2_dbl (by omega))
  ·have htj:t=j:=h1 t ht h
   subst htj
   rw [e]
   refine ⟨fun h=>by omega,fun _=>?_⟩
   have e0:hm (isC l) (t+1)=hm (isC l) t:=hm_no (by unfold isC;omega)
   rw [e0,Nat.sub_self]
   exact fewW_al ((ih x hx (by omega)).1 hx) ((ih y hy (by omega)).1 hy)
  ·omega
theorem few_only (hg:Good k l) (ho:Only l) (hb:hm (isB l) l.length=7) {a b:Int} (hab:∀ s,Sg (rt l) s→s=a∨s=b):FewS (rt l) (2 ^ 39):=by
 have hlen:=hg.len
 have hcb:∀ t,hm (isC l) t+hm (isO l) t≤hm (isB l) t:=fun t=>hm_both t (fun i _ h=>by
  have:=h.1;have:=h.2;unfold isC isO at *;omega) (fun i _ h=>h)
 have hc:=hcb l.length
 have mono:∀ {M N},FewS (rt l) M→M≤N→FewS (rt l) N:=fun ⟨f,f1,f2⟩ h=>⟨f,fun w hw=>Nat.lt_of_lt_of_le (f1 w hw) h,f2⟩
 obtain ⟨pl,mxl⟩:=only_pl hg.ok ho (l.length-1) (by omega)
 rw [show l.length-1+1=l.length by omega] at mxl
 by_cases h1:∀ j,j<l.length→isO l j→hm (isB l) j=0
 ·obtain ⟨t1,t2⟩:=only_timed hg.ok ho h1 (l.length-1) (by omega)
  rw [show l.length-1+1=l.length by omega] at t2
  have:=p2_up (show hm (isC l) l.length≤7 by omega)
  refine mono (few_timed t1 (n:=128) (by
   have:(2:Nat) ^ 7=128:=rfl
   omega) (fun s hs=>sg_lt hg hs)) (by decide)
 ·by_cases h2:2≤hm (isO l) l.length
  ·have:=p2_up (show hm (isC l) l.length≤5 by omega)
   refine mono (few_short pl (c:=a) (d:=b) hab (n:=32) (by
    have:(2:Nat) ^ 5=32:=rfl
    omega)) (by decide)
  ·-- one 'or', behind another node of two parts
   have:∃ j,j<l.length∧isO l j∧hm (isB l) j≠0:=Classical.byContradiction fun hn=>h1 fun j hj hjo=>Classical.byContradiction fun hz=>hn ⟨j,hj,hjo,hz⟩
   obtain ⟨j,hj,hjo,hz⟩:=this
   have uni:∀ i,i<l.length→isO l i→i=j:=by
    intro i hi hio
    exact Classical.byContradiction fun hne=>by
     have:=hm_two hi hj hio hjo hne
     omega
   have hoj:hm (isO l) j=0:=by
    have:=hm_in (P:=isO l) hjo hj
    omega
   have hC1:1≤hm (isC l) j:=by
    have:hm (isB l) j≤hm (isC l) j+hm (isO l) j:=by
     clear hoj hz hjo hj uni
     induction j with
     | zero=>exact Nat.zero_le _
     | succ j ih =>
      by_cases hb:isB l j
      ·rw [hm_yes hb]
       rcases hb with hb | hb
       ·have e1:=hm_yes (P:=isC l) (t:=j) hb
        have:=hm_step (isO l) j
        omega
       ·have e1:=hm_yes (P:=isO l) (t:=j) hb
        have:=hm_step (isC l) j
        omega
      ·rw [hm_no hb]
       have:=hm_step (isO l) j
       have:=hm_step (isC l) j
       omega
    omega
   have hO1:=hm_in (P:=isO l) hjo hj
   have w:=(only_words hg.ok ho hj hjo uni (l.length-1) (by omega)).2 (by omega)
   rw [show l.length-1+1=l.length by omega] at w
   have w32:FewW (rt l) (2 ^ 32):=w.mono (p2_up (by
    have:=p2_up (show hm (isC l) l.length-hm (isC l) j≤5 by omega)
    exact this))
   have:=p2_up (show hm (isC l) l.length≤6 by omega)
   exact mono (few_words pl w32 (n:=64) (by
    have:(2:Nat) ^ 6=64:=rfl
    omega)) (by decide)
theorem few_all (hg:Good k l):FewS (rt l) (2 ^ 39):=by
 have hlen:=hg.len
 have mono:∀ {M N},FewS (rt l) M→M≤N→FewS (rt l) N:=fun ⟨f,f1,f2⟩ h=>⟨f,fun w hw=>Nat.lt_of_lt_of_le (f1 w hw) h,f2⟩
 by_cases h0:∃ a,Sg (rt l) a
 ·obtain ⟨a,ha⟩:=h0
  by_cases h1:∀ s,Sg (rt l) s→s=a
  ·exact mono (few_one hg h1) (by decide)
  ·have:∃ b,Sg (rt l) b∧b≠a:=Classical.byContradiction fun hn=>h1 fun s hs=>Classical.byContradiction fun he=>hn ⟨s,hs,he⟩
   obtain ⟨b,hb,hba⟩:=this
   by_cases h6:hm (isB l) l.length≤6
   ·exact mono (few_two hg (Ne.symm hba) ha hb h6) (by decide)
   ·obtain ⟨i,i1,i2,i3⟩:=sg_in hg.ok (l.length-1) (by omega) a ha
    obtain ⟨j,j1,j2,j3⟩:=sg_in hg.ok (l.length-1) (by omega) b hb
    have hij:i≠j:=by intro e;subst e;exact hba (by omega)
    have hN:=hm_both (P:=isB l) (Q:=fun t=>¬isB l t) (R:=fun _=>True) l.length (fun i _ h=>h.2 h.1) (fun _ _ _=>trivial)
    have hT:=hm_le (fun _=>True) l.length
    have nb:∀ t,isL l t→¬isB l t:=by intro t h1 h2;unfold isL at h1;unfold isB at h2;omega
    have h2:=hm_two (P:=fun t=>¬isB l t) (t:=l.length) (i:=i) (j:=j) (by omega) (by omega) (nb i i2) (nb j j2) hij
    have ho2:∀ t,t<l.length→¬isB l t→t=i∨t=j:=by
     intro t ht hnb
     refine Classical.byContradiction fun hne=>?_
     have h3:=hm_three (P:=fun t=>¬isB l t) (t:=l.length) (i:=i) (j:=j) (k:=t) (by omega) (by omega) ht (nb i i2) (nb j j2) hnb hij (by omega) (by omega)
     omega
    have only:Only l:=by
     intro t ht
     by_cases hb:isB l t
     ·rcases hb with hb | hb
      ·exact .inl hb
      ·exact .inr (.inl hb)
     ·rcases ho2 t ht hb with e | e
      ·subst e;exact .inr (.inr i2)
      ·subst e;exact .inr (.inr j2)
    refine few_only hg only (by omega) (a:=a) (b:=b) fun s hs=>?_
    obtain ⟨q,q1,q2,q3⟩:=sg_in hg.ok (l.length-1) (by omega) s hs
    rcases ho2 q (by omega) (nb q q2) with e | e
    ·subst e;left;omega
    ·subst e;right;omega
 ·exact ⟨fun _=>0,fun w _=>Nat.two_pow_pos _,fun w w' ⟨p,hp⟩ _ _=>absurd ⟨_,p,rc_lt _ hp,rfl⟩ h0⟩
end
end Rex
namespace Gly
open Dec Rex
/-! ### what a stretch of a word is, and what nodes match of it -/
def seg (w:List Int) (a b:Nat):List Int:=(w.take b).drop a
theorem seg_len {w:List Int} {a b:Nat} (hb:b≤w.length):(seg w a b).length=b-a:=by
 unfold seg;simp;omega
theorem seg_nil (w:List Int) (a:Nat):seg w a a=[]:=by
 unfold seg
 rw [List.drop_eq_nil_iff];simp;omega
theorem seg_join {w:List Int} {a m b:Nat} (h1:a≤m) (h2:m≤b) (hb:b≤w.length):seg w a m++seg w m b=seg w a b:=by
 unfold seg
 apply List.ext_getElem?
 intro i
 by_cases h:i<m-a
 ·rw [List.getElem?_append_left (by simp;omega)]
  simp only [List.getElem?_drop,List.getElem?_take]
  rw [if_pos (by omega),if_pos (by omega)]
 ·rw [List.getElem?_append_right (by simp;omega)]
  simp only [List.getElem?_drop,List.getElem?_take,List.length_drop,List.length_take]
  rw [show m+(i-(min m w.length-a))=a+i by omega]
theorem seg_one {w:List Int} {a:Nat} {s:Int} (h:w[a]? = some s):seg w a (a+1)=[s]:=by
 unfold seg
 apply List.ext_getElem?
 intro i
 simp only [List.getElem?_drop,List.getElem?_take]
 cases i with
 | zero=>rw [if_pos (by omega)];simpa using h
 | succ i=>rw [if_neg (by omega)];rfl
theorem seg_split {w:List Int} {a b:Nat} {u v:List Int} (hab:a≤b) (hb:b≤w.length) (h:seg w a b=u++v):∃ m,a≤m∧m≤b∧seg w a m=u∧seg w m b=v:=by
 have hl:=congrArg List.length h
 rw [seg_len hb,List.length_append] at hl
 have hj:=seg_join (w:=w) (a:=a) (m:=a+u.length) (b:=b) (by omega) (by omega) hb
 rw [h] at hj
 have hlu:(seg w a (a+u.length)).length=u.length:=by rw [seg_len (by omega)];omega
 have:=List.append_inj hj hlu
 exact ⟨a+u.length,by omega,by omega,this.1,this.2⟩
theorem seg_all (w:List Int):seg w 0 w.length=w:=by unfold seg;simp
theorem seg_sign {w:List Int} {a b:Nat} {s:Int} (hab:a≤b) (hb:b≤w.length) (h:seg w a b=[s]):b=a+1∧w[a]? = some s:=by
 have hl:=congrArg List.length h
 rw [seg_len hb] at hl
 have:b=a+1:=by simp at hl;omega
 subst this
 refine ⟨rfl,?_⟩
 have h0:=congrArg (fun l=>l[0]?) h
 unfold seg at h0
 simp only [List.getElem?_drop,List.getElem?_take] at h0
 rw [if_pos (by omega)] at h0
 simpa using h0
section
variable {k:Int} {l:List Nd} {w:List Int}
theorem star_mat {t x:Nat} (hk:(nd l t).1=6) (ex:x=(nd l t).2.1.toNat) {L:List Int→Prop} (ih:∀ a b,a≤b→b≤w.length→(Mat l w x a b↔L (seg w a b))) {u:List Int} (h:Star L u):∀ a b,a≤b→b≤w.length→u=seg w a b→Mat l w t a b:=by
 induction h with
 | nil =>
  intro a b hab hb e
  have:=congrArg List.length e
  rw [seg_len hb] at this
  have:a=b:=by simp at this;omega
  subst this
  exact .star0 t a hk hb
 | more u v h1 h2 ih2 =>
  intro a b hab hb e
  obtain ⟨m,m1,m2,e1,e2⟩:=seg_split hab hb e.symm
  refine .star1 t a m b hk (ih2 a m m1 (by omega) e1.symm) ?_
  rw [←ex,ih m b m2 hb,e2]
  exact h2
theorem mat_lg (hok:∀ t,t<l.length→OkN k t (nd l t)):∀ t,t<l.length→∀ a b,a≤b→b≤w.length→(Mat l w t a b↔Lg (tr l t) (seg w a b)):=by
 intro t
 induction t using Nat.strongRecOn with
 | _ t ih =>
  intro ht a b hab hb
  rcases shape hok ht with ⟨h,e⟩ | ⟨h,e⟩ | ⟨h,e⟩ | ⟨h,x,y,ex,ey,hx,hy,e⟩ | ⟨h,x,y,ex,ey,hx,hy,e⟩ | ⟨h,x,ex,hx,e⟩
  ·rw [e,mat_iff]
   constructor
   ·rintro (⟨h',_⟩ | ⟨h',_⟩ | ⟨h',_⟩ | ⟨h',_⟩ | ⟨h',_⟩) <;> omega
   ·exact fun h=>h.elim
  ·rw [e,mat_iff]
   constructor
   ·rintro (⟨_,rfl,_⟩ | ⟨h',_⟩ | ⟨h',_⟩ | ⟨h',_⟩ | ⟨h',_⟩)
    ·exact seg_nil w a
    all_goals omega
   ·intro hl
    have hl':seg w a b=[]:=hl
    have:=congrArg List.length hl'
    rw [seg_len hb] at this
    simp at this
    exact .inl ⟨h,by omega,hb⟩
  ·rw [e,mat_iff]
   constructor
   ·rintro (⟨h',_⟩ | ⟨_,rfl,hs⟩ | ⟨h',_⟩ | ⟨h',_⟩ | ⟨h',_⟩)
    ·omega
    ·exact seg_one hs
    all_goals omega
   ·intro hl
    have:=seg_sign hab hb hl
    exact .inr (.inl ⟨h,this⟩)
  ·rw [e,mat_iff]
   constructor
   ·rintro (⟨h',_⟩ | ⟨h',_⟩ | ⟨_,m,m1,m2⟩ | ⟨h',_⟩ | ⟨h',_⟩)
    ·omega
    ·omega
    ·rw [←ex] at m1
     rw [←ey] at m2
     have l1:=m1.le
     have l2:=m2.le
     exact ⟨seg w a m,seg w m b,(seg_join l1.1 l2.1 hb).symm,(ih x hx (by omega) a m l1.1 (by omega)).1 m1,(ih y hy (by omega) m b l2.1 hb).1 m2⟩
    ·omega
    ·omega
   ·rintro ⟨u,v,hs,h1,h2⟩
    obtain ⟨m,m1,m2,e1,e2⟩:=seg_split hab hb hs
    refine .inr (.inr (.inl ⟨h,m,?_,?_⟩))
    ·rw [←ex];exact (ih x hx (by omega) a m m1 (by omega)).2 (by rw [e1];exact h1)
    ·rw [←ey];exact (ih y hy (by omega) m b m2 hb).2 (by rw [e2];exact h2)
  ·rw [e,mat_iff]
   constructor
   ·rintro (⟨h',_⟩ | ⟨h',_⟩ | ⟨h',_⟩ | ⟨_,m1⟩ | ⟨h',_⟩)
    ·omega
    ·omega
    ·omega
    ·rw [←ex,←ey] at m1
     rcases m1 with m1 | m1
     ·exact .inl ((ih x hx (by omega) a b hab hb).1 m1)
     ·exact .inr ((ih y hy (by omega) a b hab hb).1 m1)
    ·omega
   ·rintro h1
    refine .inr (.inr (.inr (.inl ⟨h,?_⟩)))
    rw [←ex,←ey]
    rcases h1 with h1 | h1
    ·exact .inl ((ih x hx (by omega) a b hab hb).2 h1)
    ·exact .inr ((ih y hy (by omega) a b hab hb).2 h1)
  ·rw [e]
   constructor
   ·intro hm
    show Star (Lg (tr l x)) (seg w a b)
    clear hab hb
    generalize ht':t=t' at hm
    induction hm with
    | empty t i h hi=>subst ht';omega
    | sym t i h hi=>subst ht';omega
    | cat t i m j h h1 h2=>subst ht';omega
    | or1 t i j h h1=>subst ht';omega
    | or2 t i j h h1=>subst ht';omega
    | star0 t i h hi=>rw [seg_nil];exact .nil
    | star1 t' i m j h h1 h2 ih1 ih2 =>
     subst ht'
     have l1:=h1.le
     have l2:=h2.le
     rw [←seg_join l1.1 l2.1 l2.2]
     refine .more _ _ (ih1 rfl) ?_
     rw [←ex] at h2
     exact (ih x hx (by omega) m j l2.1 l2.2).1 h2
   ·intro hs
    exact star_mat h ex (fun a b h1 h2=>ih x hx (by omega) a b h1 h2) hs a b hab hb rfl
end
/-! ### which words lead to which positions -/
def Pos (F:Nat→Nat→Prop) (sy:Nat→Int) (w:List Int) (N:Nat) (fi:Nat→Prop) (r:Rg):Prop :=
 ∀ p a b,p<cnt r→a<b→b≤w.length→((∃ q,fi q∧Ch F sy w q a b (N+p))↔Rc r p (seg w a b))
variable {F F':Nat→Nat→Prop} {sy sy':Nat→Int} {w:List Int} {N N1 N2:Nat} {fi la fi2 la2:Nat→Prop} {M M2:Nat→Nat→Prop} {x y:Rg}
theorem pos_congr (hf:∀ q,fi q→N≤q∧q<N1) (hfol:∀ q,N≤q→q<N1→∀ r,F q r→N≤r∧r<N1) (h:Pos F sy w N fi x) (hF:∀ q r,N≤q→q<N1→(F q r↔F' q r)) (hs:∀ q,N≤q→q<N1→sy q=sy' q) {fi':Nat→Prop} (hfi:∀ q,fi q↔fi' q):Pos F' sy' w N fi' x:=by
 intro p a b hp hab hb
 rw [←h p a b hp hab hb]
 constructor
 ·rintro ⟨q,h1,h2⟩
  have h1:=(hfi q).2 h1
  exact ⟨q,h1,(h2.mono (F':=F) (sy':=sy) (P:=fun q=>N≤q∧q<N1) (fun q r hp hf=>⟨(hF q r hp.1 hp.2).2 hf,hfol q hp.1 hp.2 r ((hF q r hp.1 hp.2).2 hf)⟩) (fun q hp=>(hs q hp.1 hp.2).symm) (hf q h1)).1⟩
 ·rintro ⟨q,h1,h2⟩
  exact ⟨q,(hfi q).1 h1,(h2.mono (F':=F') (sy':=sy') (P:=fun q=>N≤q∧q<N1) (fun q r hp hf=>⟨(hF q r hp.1 hp.2).1 hf,hfol q hp.1 hp.2 r hf⟩) (fun q hp=>hs q hp.1 hp.2) (hf q h1)).1⟩
theorem pos_sym (hF:∀ r,¬F N r):Pos F sy w N (fun q=>q=N) (.sy (sy N)):=by
 intro p a b hp hab hb
 have hp0:p=0:=by have:p<1:=hp;omega
 subst hp0
 constructor
 ·rintro ⟨q,rfl,hc⟩
  cases hc with
  | one q a h=>exact ⟨rfl,seg_one h⟩
  | step q q2 a b r h hf h2=>exact absurd hf (hF q2)
 ·rintro ⟨_,h⟩
  obtain ⟨e,h9⟩:=seg_sign (by omega) hb h
  subst e
  exact ⟨N,rfl,.one N a h9⟩
theorem pos_or (h1:Frag F sy w N N1 fi la M) (h2:Frag F sy w N1 N2 fi2 la2 M2) (p1:Pos F sy w N fi x) (p2:Pos F sy w N1 fi2 y) (hc:N1=N+cnt x):Pos F sy w N (fun q=>fi q∨fi2 q) (.al x y):=by
 subst hc
 intro p a b hp hab hb
 have hp':p<cnt x+cnt y:=hp
 constructor
 ·rintro ⟨q,k1 | k1,k2⟩
  ·have hr:=h1.inside k2 (h1.fin q k1)
   exact .inl ⟨by omega,(p1 p a b (by omega) hab hb).1 ⟨q,k1,k2⟩⟩
  ·have hr:=h2.inside k2 (h2.fin q k1)
   refine .inr ⟨by omega,(p2 (p-cnt x) a b (by omega) hab hb).1 ⟨q,k1,?_⟩⟩
   rw [show N+cnt x+(p-cnt x)=N+p by omega]
   exact k2
 ·rintro (⟨k,h⟩ | ⟨k,h⟩)
  ·obtain ⟨q,k1,k2⟩:=(p1 p a b k hab hb).2 h
   exact ⟨q,.inl k1,k2⟩
  ·obtain ⟨q,k1,k2⟩:=(p2 (p-cnt x) a b (by omega) hab hb).2 h
   refine ⟨q,.inr k1,?_⟩
   rw [show N+cnt x+(p-cnt x)=N+p by omega] at k2
   exact k2
theorem rc_ne {r:Rg} {p:Nat} (h:Rc r p []):False:=by
 obtain ⟨u,hu⟩:=rc_last r h
 simp at hu
theorem pos_cat {ex:Prop} (h1:Frag F sy w N N1 fi la M) (h2:Frag F sy w N1 N2 fi2 la2 M2) (hF:∀ q r,N≤q→q<N2→(F' q r↔F q r∨(la q∧fi2 r)))
  (p1:Pos F sy w N fi x) (p2:Pos F sy w N1 fi2 y) (hc:N1=N+cnt x) (hc2:N2=N1+cnt y)
  (hM:∀ a b,a≤b→b≤w.length→(M a b↔Lg x (seg w a b))) (hx0:∀ a,a≤w.length→(M a a↔ex)) :
  Pos F' sy w N (fun q=>fi q∨(ex∧fi2 q)) (.ca x y):=by
 subst hc hc2
 have in2:∀ q,N+cnt x≤q→q<N+cnt x+cnt y→∀ r,F' q r→F q r:=by
  intro q k1 k2 r hf
  rcases (hF q r (by omega) k2).1 hf with h | ⟨h,_⟩
  ·exact h
  ·have:=h1.lan q h;omega
 have mono:∀ q r,N≤q→q<N+cnt x+cnt y→F q r→F' q r:=fun q r k1 k2 hf=>(hF q r k1 k2).2 (.inl hf)
 have ch2:∀ {q a b r:Nat},Ch F' sy w q a b r→N+cnt x≤q∧q<N+cnt x+cnt y→Ch F sy w q a b r:=fun hc hq =>
  (hc.mono (F':=F) (sy':=sy) (P:=fun q=>N+cnt x≤q∧q<N+cnt x+cnt y) (fun q r hp hf=>⟨in2 q hp.1 hp.2 r hf,h2.fol q hp.1 hp.2 r (in2 q hp.1 hp.2 r hf)⟩) (fun _ _=>rfl) hq).1
 have up1:∀ {q a b r:Nat},Ch F sy w q a b r→N≤q∧q<N+cnt x→Ch F' sy w q a b r:=fun hc hq =>
  (hc.mono (F':=F') (sy':=sy) (P:=fun q=>N≤q∧q<N+cnt x) (fun q r hp hf=>⟨mono q r hp.1 (by have:=hp.2;omega) hf,h1.fol q hp.1 hp.2 r hf⟩) (fun _ _=>rfl) hq).1
 have up2:∀ {q a b r:Nat},Ch F sy w q a b r→N+cnt x≤q∧q<N+cnt x+cnt y→Ch F' sy w q a b r:=fun hc hq =>
  (hc.mono (F':=F') (sy':=sy) (P:=fun q=>N+cnt x≤q∧q<N+cnt x+cnt y) (fun q r hp hf=>⟨mono q r (by have:=hp.1;omega) hp.2 hf,h2.fol q hp.1 hp.2 r hf⟩) (fun _ _=>rfl) hq).1
 intro p a b hp hab hb
 have hp':p<cnt x+cnt y:=hp
 constructor
 ·rintro ⟨q,k1,k2⟩
  have hlt:=k2.lt
  rcases k1 with k1 | ⟨e1,k1⟩
  ·have hq:=h1.fin q k1
   have key:Ch F sy w q a b (N+p)∨∃ m q1 q2,Ch F sy w q a m q1∧la q1∧fi2 q2∧Ch F' sy w q2 m b (N+p):=by
    have:Ch (fun q r=>(N≤q∧q<N+cnt x+cnt y)∧F' q r) sy w q a b (N+p):=by
     refine (k2.mono (F':=fun q r=>(N≤q∧q<N+cnt x+cnt y)∧F' q r) (sy':=sy) (P:=fun q=>N≤q∧q<N+cnt x+cnt y) (fun q r hp hf=>⟨⟨hp,hf⟩,?_⟩) (fun _ _=>rfl) ⟨hq.1,by omega⟩).1
     rcases (hF q r hp.1 hp.2).1 hf with h | ⟨h,h'⟩
     ·by_cases hq:q<N+cnt x
      ·have:=h1.fol q hp.1 hq r h;omega
      ·have:=h2.fol q (by omega) hp.2 r h;omega
     ·have:=h2.fin r h';omega
    rcases this.first (F:=F) (la:=la) (fi:=fi2) (fun q r hf=>(hF q r hf.1.1 hf.1.2).1 hf.2) with h | ⟨m,q1,q2,i1,i2,i3,i4⟩
    ·exact .inl h
    ·exact .inr ⟨m,q1,q2,i1,i2,i3,(i4.mono (F':=F') (sy':=sy) (P:=fun _=>True) (fun q r _ hf=>⟨hf.2,trivial⟩) (fun _ _=>rfl) trivial).1⟩
   rcases key with hc | ⟨m,q1,q2,i1,i2,i3,i4⟩
   ·have hr:=h1.inside hc hq
    exact .inl ⟨by omega,(p1 p a b (by omega) hab hb).1 ⟨q,k1,hc⟩⟩
   ·have hq2:=h2.fin q2 i3
    have hc2:=ch2 i4 hq2
    have hr:=h2.inside hc2 hq2
    have k1':=i1.lt
    have k2':=i4.lt
    refine .inr ⟨by omega,seg w a m,seg w m b,(seg_join (by omega) (by omega) hb).symm,?_,?_⟩
    ·exact (hM a m (by omega) (by omega)).1 ((h1.acc a m k1'.1).1 ⟨q,q1,k1,i1,i2⟩)
    ·refine (p2 (p-cnt x) m b (by omega) k2'.1 hb).1 ⟨q2,i3,?_⟩
     rw [show N+cnt x+(p-cnt x)=N+p by omega]
     exact hc2
  ·have hq:=h2.fin q k1
   have hc2:=ch2 k2 hq
   have hr:=h2.inside hc2 hq
   refine .inr ⟨by omega,[],seg w a b,rfl,?_,?_⟩
   ·rw [←seg_nil w a]
    exact (hM a a (Nat.le_refl _) (by omega)).1 ((hx0 a (by omega)).2 e1)
   ·refine (p2 (p-cnt x) a b (by omega) hab hb).1 ⟨q,k1,?_⟩
    rw [show N+cnt x+(p-cnt x)=N+p by omega]
    exact hc2
 ·rintro (⟨k,h⟩ | ⟨k,u,v,e,h3,h4⟩)
  ·obtain ⟨q,k1,k2⟩:=(p1 p a b k hab hb).2 h
   exact ⟨q,.inl k1,up1 k2 (h1.fin q k1)⟩
  ·obtain ⟨m,m1,m2,e1,e2⟩:=seg_split (by omega) hb e
   have hmb:m<b:=by
    refine Nat.lt_of_not_le fun hle=>?_
    have:m=b:=by omega
    subst this
    rw [seg_nil] at e2
    rw [←e2] at h4
    exact rc_ne h4
   rw [←e2] at h4
   rw [←e1] at h3
   obtain ⟨q',k1',k2'⟩:=(p2 (p-cnt x) m b (by omega) hmb hb).2 h4
   rw [show N+cnt x+(p-cnt x)=N+p by omega] at k2'
   have hMm:=(hM a m m1 (by omega)).2 h3
   by_cases ham:a=m
   ·subst ham
    exact ⟨q',.inr ⟨(hx0 a (by omega)).1 hMm,k1'⟩,up2 k2' (h2.fin q' k1')⟩
   ·obtain ⟨q,r,k1,k2,k3⟩:=(h1.acc a m (by omega)).2 hMm
    have hr:=h1.lan r k3
    exact ⟨q,.inl k1,(up1 k2 (h1.fin q k1)).join ((hF r q' hr.1 (by omega)).2 (.inr ⟨k3,k1'⟩)) (up2 k2' (h2.fin q' k1'))⟩
theorem pos_star (h1:Frag F sy w N N1 fi la M) (hF:∀ q r,N≤q→q<N1→(F' q r↔F q r∨(la q∧fi r))) (p1:Pos F sy w N fi x) (hc:N1=N+cnt x)
  (hM:∀ a b,a≤b→b≤w.length→(M a b↔Lg x (seg w a b))):Pos F' sy w N fi (.st x):=by
 subst hc
 have cl:∀ q r,N≤q→q<N+cnt x→F' q r→N≤r∧r<N+cnt x:=by
  intro q r k1 k2 hf
  rcases (hF q r k1 k2).1 hf with h | ⟨_,h⟩
  ·exact h1.fol q k1 k2 r h
  ·exact h1.fin r h
 have up:∀ {q a b r:Nat},Ch F sy w q a b r→N≤q∧q<N+cnt x→Ch F' sy w q a b r:=fun hc hq =>
  (hc.mono (F':=F') (sy':=sy) (P:=fun q=>N≤q∧q<N+cnt x) (fun q r hp hf=>⟨(hF q r hp.1 hp.2).2 (.inl hf),h1.fol q hp.1 hp.2 r hf⟩) (fun _ _=>rfl) hq).1
 intro p a b hp hab hb
 have hp':p<cnt x:=hp
 constructor
 ·have key:∀ (n a b q:Nat),b-a≤n→a<b→b≤w.length→fi q→Ch F' sy w q a b (N+p)→Rc (.st x) p (seg w a b):=by
   intro n
   induction n with
   | zero=>intro a b q hn _ _ _ hc;have:=hc.lt;omega
   | succ n ih =>
    intro a b q hn hab hb hq hc
    have this:Ch (fun q r=>(N≤q∧q<N+cnt x)∧F' q r) sy w q a b (N+p) :=
     (hc.mono (F':=fun q r=>(N≤q∧q<N+cnt x)∧F' q r) (sy':=sy) (P:=fun q=>N≤q∧q<N+cnt x) (fun q r hp hf=>⟨⟨hp,hf⟩,cl q r hp.1 hp.2 hf⟩) (fun _ _=>rfl) (h1.fin q hq)).1
    rcases this.first (F:=F) (la:=la) (fi:=fi) (fun q r hf=>(hF q r hf.1.1 hf.1.2).1 hf.2) with h | ⟨m,q1,q2,i1,i2,i3,i4⟩
    ·exact ⟨[],seg w a b,rfl,.nil,(p1 p a b hp' hab hb).1 ⟨q,hq,h⟩⟩
    ·have k1:=i1.lt
     have k2:=i4.lt
     have i4':=(i4.mono (F':=F') (sy':=sy) (P:=fun _=>True) (fun q r _ hf=>⟨hf.2,trivial⟩) (fun _ _=>rfl) trivial).1
     obtain ⟨u,v,e,g1,g2⟩:=ih m b q2 (by omega) k2.1 hb i3 i4'
     refine ⟨seg w a m++u,v,?_,?_,g2⟩
     ·rw [List.append_assoc,←e];exact (seg_join (by omega) (by omega) hb).symm
     ·exact star_app (star_one ((hM a m (by omega) (by omega)).1 ((h1.acc a m k1.1).1 ⟨q,q1,hq,i1,i2⟩))) g1
  rintro ⟨q,k1,k2⟩
  exact key (b-a) a b q (Nat.le_refl _) hab hb k1 k2
 ·rintro ⟨u,v,e,hs,hr⟩
  have key:∀ {u:List Int},Star (Lg x) u→∀ m a b,a≤m→m<b→b≤w.length→u=seg w a m→(∃ q,fi q∧Ch F' sy w q m b (N+p))→∃ q,fi q∧Ch F' sy w q a b (N+p):=by
   intro u hs
   induction hs with
   | nil =>
    intro m a b h1 h2 h3 e hq
    have:=congrArg List.length e
    rw [seg_len (by omega)] at this
    have:a=m:=by simp at this;omega
    subst this
    exact hq
   | more u v g1 g2 ih =>
    intro m a b k1 k2 k3 e hq
    obtain ⟨m',m1,m2,e1,e2⟩:=seg_split k1 (by omega) e.symm
    obtain ⟨q',k4,k5⟩:=hq
    refine ih m' a b m1 (by omega) k3 e1.symm ?_
    by_cases hm:m'=m
    ·subst hm;exact ⟨q',k4,k5⟩
    ·obtain ⟨q,r,i1,i2,i3⟩:=(h1.acc m' m (by omega)).2 ((hM m' m m2 (by omega)).2 (by rw [e2];exact g2))
     have hr:=h1.lan r i3
     exact ⟨q,i1,(up i2 (h1.fin q i1)).join ((hF r q' hr.1 hr.2).2 (.inr ⟨i3,k4⟩)) k5⟩
  obtain ⟨m,m1,m2,e1,e2⟩:=seg_split (by omega) hb e
  have hmb:m<b:=by
   refine Nat.lt_of_not_le fun hle=>?_
   have:m=b:=by omega
   subst this
   rw [seg_nil] at e2
   rw [←e2] at hr
   exact rc_ne hr
  obtain ⟨q,k1,k2⟩:=(p1 p m b hp' hmb hb).2 (by rw [e2];exact hr)
  exact key hs m a b m1 hmb hb e1.symm ⟨q,k1,up k2 (h1.fin q k1)⟩
section
variable {k:Int} {l:List Nd}
theorem tr_sy (hok:∀ t,t<l.length→OkN k t (nd l t)) {t:Nat} (ht:t<l.length) (hk:(nd l t).1=3):tr l t=.sy (nd l t).2.1:=by
 rcases shape hok ht with ⟨h,e⟩ | ⟨h,e⟩ | ⟨h,e⟩ | ⟨h,x,y,ex,ey,hx,hy,e⟩ | ⟨h,x,y,ex,ey,hx,hy,e⟩ | ⟨h,x,ex,hx,e⟩
 all_goals first | exact e | (exfalso;omega)
theorem tr_ca (hok:∀ t,t<l.length→OkN k t (nd l t)) {t:Nat} (ht:t<l.length) (hk:(nd l t).1=4):tr l t=.ca (tr l (nd l t).2.1.toNat) (tr l (nd l t).2.2.toNat):=by
 rcases shape hok ht with ⟨h,e⟩ | ⟨h,e⟩ | ⟨h,e⟩ | ⟨h,x,y,ex,ey,hx,hy,e⟩ | ⟨h,x,y,ex,ey,hx,hy,e⟩ | ⟨h,x,ex,hx,e⟩
 all_goals first | (rw [←ex,←ey];exact e) | (exfalso;omega)
theorem tr_al (hok:∀ t,t<l.length→OkN k t (nd l t)) {t:Nat} (ht:t<l.length) (hk:(nd l t).1=5):tr l t=.al (tr l (nd l t).2.1.toNat) (tr l (nd l t).2.2.toNat):=by
 rcases shape hok ht with ⟨h,e⟩ | ⟨h,e⟩ | ⟨h,e⟩ | ⟨h,x,y,ex,ey,hx,hy,e⟩ | ⟨h,x,y,ex,ey,hx,hy,e⟩ | ⟨h,x,ex,hx,e⟩
 all_goals first | (exfalso;omega) | (rw [←ex,←ey];exact e)
theorem tr_st (hok:∀ t,t<l.length→OkN k t (nd l t)) {t:Nat} (ht:t<l.length) (hk:(nd l t).1=6):tr l t=.st (tr l (nd l t).2.1.toNat):=by
 rcases shape hok ht with ⟨h,e⟩ | ⟨h,e⟩ | ⟨h,e⟩ | ⟨h,x,y,ex,ey,hx,hy,e⟩ | ⟨h,x,y,ex,ey,hx,hy,e⟩ | ⟨h,x,ex,hx,e⟩
 all_goals first | (exfalso;omega) | (rw [←ex];exact e)
theorem tr_no (hok:∀ t,t<l.length→OkN k t (nd l t)) {t:Nat} (ht:t<l.length) (hk:(nd l t).1=1∨(nd l t).1=2):cnt (tr l t)=0:=by
 rcases shape hok ht with ⟨h,e⟩ | ⟨h,e⟩ | ⟨h,e⟩ | ⟨h,x,y,ex,ey,hx,hy,e⟩ | ⟨h,x,y,ex,ey,hx,hy,e⟩ | ⟨h,x,ex,hx,e⟩
 all_goals first | (exfalso;omega) | (rw [e];rfl)
end
end Gly
