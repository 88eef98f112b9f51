/-
pick.grow: the tree that steps make (plain). Trees of steps over a word: what grow makes, and where they stand (plain). Exact answers of Check, Whole, Pick and Place (plain).
-/
import Derived.Test.YtljlpmfmfcljaaaPkB
set_option linter.unusedSimpArgs false
set_option linter.unusedVariables false
namespace Dec
open Go Go.Proofs Cfg
def growL (S:Int→List Int→Option (Tree×List Int)):List Int→List Int→Option (List Tree×List Int×List Int)
 | [],st=>some ([],[],st)
 | s::l,st=>(S s st).bind fun x=>(growL S l x.2).bind fun y=>some (x.1::y.1,x.1.word++y.2.1,y.2.2)
def growF (g:Gr):Nat→Int→List Int→Option (Tree×List Int)
 | 0,_,_=>none
 | f+1,s,st =>
  if s<g.1 then some (.node (-1) [] [s],st)
  else match st with
   | []=>none
   | k::st=>if 0≤k∧k<(g.2.2.2.length:Int)∧(g.2.2.2.getD k.toNat (0,[])).1=s-g.1 then (growL (growF g f) (g.2.2.2.getD k.toNat (0,[])).2 st).bind fun y=>some (.node k y.1 y.2.1,y.2.2) else none
theorem growF_sym {g:Gr} {f:Nat} {s:Int} {st:List Int} (h:s<g.1):growF g (f+1) s st=some (.node (-1) [] [s],st):=by
 show (if s<g.1 then _ else _)=_
 rw [if_pos h]
theorem growF_nil {g:Gr} {f:Nat} {s:Int} (h:¬s<g.1):growF g (f+1) s []=none:=by
 show (if s<g.1 then _ else _)=_
 rw [if_neg h]
theorem growF_cons {g:Gr} {f:Nat} {s k:Int} {st:List Int} (h:¬s<g.1):growF g (f+1) s (k::st)=if 0≤k∧k<(g.2.2.2.length:Int)∧(g.2.2.2.getD k.toNat (0,[])).1=s-g.1 then (growL (growF g f) (g.2.2.2.getD k.toNat (0,[])).2 st).bind fun y=>some (.node k y.1 y.2.1,y.2.2) else none:=by
 show (if s<g.1 then _ else _)=_
 rw [if_neg h]
section
variable {g:Gr} {w:List Int}
set_option maxHeartbeats 1000000 in
theorem grow_of (hg:GoodG g):∀ (f:Nat) (s:Int) (st:List Int) (K:Tree×List Int×Bool→Prop),st.length+2≤f→st.length≤60→0≤s∧s<g.1+g.2.1→(growF g f s st=none→K (.node 0 [] [],[],false)) →
  (∀ t r,growF g f s st=some (t,r)→t.word.length+3*r.length≤3*st.length+1→r.length≤st.length→K (t,r,true))→VC59_it f g s st K
 | 0,s,st,K,hf,_,_,_,_=>by omega
 | f+1,s,st,K,hf,h60,hs,hno,hyes=>by
  have hk:=hg.k
  have hn:=hg.n
  have hfew:=hg.few
  show VC59 (VC59_it f) g s st K
  unfold VC59
  refine ⟨fun hsym=>?_,fun hname=>?_⟩
  ·simp only [decide_eq_true_eq] at hsym
   refine hyes _ _ (growF_sym hsym) ?_ (Nat.le_refl _)
   show (1:Nat)+3*st.length≤_
   omega
  ·simp only [decide_eq_false_iff_not] at hname
   cases st with
   | nil =>
    have hno:=hno (growF_nil hname)
    simp only [List.length_nil]
    refine ⟨fun h=>(by simp at h),fun h=>(by simp at h),fun h=>(by simp at h),fun h=>(by simp at h),fun h=>(by simp at h),fun _=>hno,fun h=>(by simp at h)⟩
   | cons k st =>
    rw [growF_cons hname] at hno hyes
    simp only [List.length_cons,Int.toNat_zero,List.getD_cons_zero] at hf h60 hno hyes ⊢
    have hne:decide (((st.length+1:Nat):Int)=0)=false:=by simp only [decide_eq_false_iff_not];omega
    simp only [hne,Bool.false_or]
    refine ⟨fun _=>⟨by omega,by omega⟩,fun _=>⟨by omega,by omega⟩,fun _=>⟨by omega,by omega⟩,fun h=>?_,fun h=>?_,fun hbad=>?_,fun hgood=>?_⟩
    ·simp only [Bool.or_eq_false_iff,decide_eq_false_iff_not] at h
     exact ⟨by omega,by omega⟩
    ·unfold InR;omega
    ·refine hno (if_neg ?_)
     rintro ⟨h1,h2,h3⟩
     simp only [Bool.or_eq_true,decide_eq_true_eq,Bool.not_eq_true',decide_eq_false_iff_not] at hbad
     rcases hbad with (h | h) | h
     ·omega
     ·omega
     ·exact h h3
    ·simp only [Bool.or_eq_false_iff,decide_eq_false_iff_not,Bool.not_eq_false',decide_eq_true_eq] at hgood
     obtain ⟨⟨h1,h2⟩,h3⟩:=hgood
     rw [if_pos ⟨by omega,by omega,h3⟩] at hno hyes
     have hkl:k.toNat<g.2.2.2.length:=by omega
     have hmem:g.2.2.2.getD k.toNat (0,[])∈g.2.2.2:=getD_mem hkl
     have hshort:=hg.short _ hmem
     have hright:=hg.right _ hmem
     obtain ⟨L,hL⟩:∃ L,(g.2.2.2.getD k.toNat (0,[])).2=L:=⟨_,rfl⟩
     rw [hL] at hshort hright hno hyes
     refine ⟨⟨by omega,by omega⟩,⟨by omega,by omega⟩,⟨by omega,by omega⟩,?_⟩
     refine Loop.by (fun t:List Int×Int×List Tree×List Int=>∃ v:Nat,t.2.1=(v:Int)∧v≤L.length∧t.2.2.1.length=v∧t.1.length≤st.length∧t.2.2.2.length+3*t.1.length≤3*st.length+v∧growL (growF g f) L st=(growL (growF g f) (L.drop v) t.1).bind fun y=>some (t.2.2.1++y.1,t.2.2.2++y.2.1,y.2.2)) (fun t=>((L.length:Int)-t.2.1).toNat) ⟨0,rfl,by omega,rfl,by simp,by simp,by
      simp only [List.drop_zero]
      cases h:growL (growF g f) L st <;> simp [h]⟩ ?_
     rintro ⟨st2,v',kids,wd⟩ ⟨v,e,hv,hkl2,hst2,hwd,heq⟩ X hX
     dsimp only at e hkl2 hst2 hwd heq hX
     subst e
     dsimp only
     unfold VC59_l1
     simp only [Int.toNat_natCast,Int.toNat_zero,List.getD_cons_zero,hL]
     refine ⟨fun hb=>?_,fun hb=>?_⟩
     ·simp only [decide_eq_true_eq] at hb
      have hvL:v<L.length:=by omega
      have eL:L.drop v=L.getD v 0::L.drop (v+1):=by rw [List.drop_eq_getElem_cons hvL,getD_lt _ hvL]
      rw [eL,growL] at heq
      refine ⟨⟨by omega,by omega⟩,grow_of hg f _ st2 _ (by omega) (by omega) (hright _ (getD_mem hvL)) (fun hnone=>⟨fun _=>hno ?_,fun h=>(by cases h)⟩) (fun t r hsome ht hr=>⟨fun h=>(by cases h),fun _=>?_⟩)⟩
      ·rw [heq,hnone];rfl
      ·dsimp only
       rw [hsome] at heq
       simp only [Option.bind_some] at heq
       refine ⟨by (first | unfold roomW | unfold roomN);simp only [List.length_cons,List.length_nil];omega,by (first | unfold roomW | unfold roomN);omega,by unfold InR;omega,hX _ ⟨v+1,by simp,by omega,by simp [hkl2],by dsimp only;omega,?_,?_⟩ (by dsimp only;omega)⟩
       ·dsimp only
        rw [List.length_append]
        omega
       ·dsimp only
        rw [heq,Tree.eta]
        cases growL (growF g f) (L.drop (v+1)) r <;> simp
     ·simp only [decide_eq_false_iff_not] at hb
      have ev:v=L.length:=by omega
      subst ev
      rw [List.drop_length,growL] at heq
      simp only [Option.bind_some,List.append_nil] at heq
      unfold VC59_k1
      simp only [Int.toNat_zero,List.getD_cons_zero]
      refine hyes _ _ (by rw [heq];rfl) ?_ (by omega)
      show wd.length+3*st2.length≤_
      omega
theorem VCr59_of (hg:GoodG g) {s:Int} {st:List Int} (h60:st.length≤60) (hs:0≤s∧s<g.1+g.2.1) {K:Tree×List Int×Bool→Prop} (hno:growF g 62 s st=none→K (.node 0 [] [],[],false)) (hyes:∀ t r,growF g 62 s st=some (t,r)→t.word.length+3*r.length≤3*st.length+1→r.length≤st.length→K (t,r,true)):VCr59 g s st K :=
 ⟨62,grow_of hg 62 s st K (by omega) h60 hs hno hyes⟩
end
end Dec
namespace Dec
open Go Go.Proofs Cfg
abbrev Yd9:=List Int→Int→Kn→(Int×Kn→Prop)→(Int×Int×Kn→Prop)→Prop
section
variable {c1 c2 c3:Int} {c4:List Rl} {c5:List Int} {c7 c10 c11 c12:Int} {c8:List Tree} {c9 c13 c14:List Int} {Y:Yd9} {parts i0 j0:Nat} {I:List (List Nat)→Int→Kn→Prop} {F:Int→Int→Kn→Prop}
theorem choose9_of (hparts:1≤parts∧parts≤50) (hj:j0≤50) (hi0:i0≤50)
  (hY:∀ es rest i kn,I (es::rest) i kn→∀ Kt Kf,(∀ i' kn',I rest i' kn'→Kt (i',kn'))→(∀ k i' kn',F k i' kn'→Kf (k,i',kn'))→Y (ints es) i kn Kt Kf) :
  ∀ (n p:Nat) (hv:List Nat) (from_:Nat),p<n→1≤p→hv.length+p=parts→(hv.getLast?.getD i0=from_)→from_≤50→∀ rest i kn (K:Bool×Int×Kn×Int→Prop),I ((cutsL p from_ j0).map (hv++·)++rest) i kn →
   (∀ i' kn',I rest i' kn'→K (true,0,kn',i'))→(∀ k i' kn',F k i' kn'→K (false,k,kn',i')) →
   VCc85y9_it (parts:Int) ((i0:Int),(j0:Int)) c1 c2 c3 c4 c5 c7 c8 c9 c10 c11 c12 c13 c14 Y n (ints hv) 0 kn i K:=by
 intro n
 induction n with
 | zero=>intro p hv from_ h;omega
 | succ n ih =>
  intro p hv from_ hpn hp1 hlen hfrom hf50 rest i kn K hI hK hF
  show VCc85y9 (parts:Int) ((i0:Int),(j0:Int)) c1 c2 c3 c4 c5 c7 c8 c9 c10 c11 c12 c13 c14 Y (VCc85y9_it (parts:Int) ((i0:Int),(j0:Int)) c1 c2 c3 c4 c5 c7 c8 c9 c10 c11 c12 c13 c14 Y n) (ints hv) 0 kn i K
  unfold VCc85y9
  have hl:(ints hv).length=hv.length:=by simp
  rw [hl]
  refine ⟨by unfold InR;omega,fun hlast=>?_,fun hmore=>?_⟩
  ·simp only [decide_eq_true_eq] at hlast
   have hp:p=1:=by omega
   subst hp
   refine VC54_of (by rw [hl];omega) ⟨by (first | unfold roomW | unfold roomN);rw [hl];simp only [List.length_cons,List.length_nil];omega,rfl,?_⟩
   have e:ints hv++[(j0:Int)]=ints (hv++[j0]):=by simp
   simp only [e]
   refine hY (hv++[j0]) rest i kn (by simpa [cutsL] using hI) _ _ (fun i' kn' h=>?_) (fun k i' kn' h=>?_)
   ·unfold VCc85y9_k1;exact hK _ _ h
   ·unfold VCc85y9_k1;exact hF _ _ _ h
  ·simp only [decide_eq_false_iff_not] at hmore
   obtain ⟨q,rfl⟩:∃ q,p=q+2:=⟨p-2,by omega⟩
   have hk2:VCc85y9_k2 ((i0:Int),(j0:Int)) (VCc85y9_it (parts:Int) ((i0:Int),(j0:Int)) c1 c2 c3 c4 c5 c7 c8 c9 c10 c11 c12 c13 c14 Y n) (ints hv) 0 kn i K (from_:Int):=by
    unfold VCc85y9_k2
    refine ⟨by unfold InR;omega,?_⟩
    refine Loop.by (fun t:Int×Int×Int×Kn=>∃ e:Nat,t.1=(e:Int)∧from_+1≤e∧e≤60∧t.2.2.1=0∧I ((((List.range (j0-e)).map (· + e)).flatMap fun m=>(cutsL (q+1) m j0).map (m::·)).map (hv++·)++rest) t.2.1 t.2.2.2) (fun t=>((j0:Int)-t.1).toNat) ⟨from_+1,by simp,Nat.le_refl _,by omega,rfl,by rw [cutsL_succ] at hI;exact hI⟩ ?_
    rintro ⟨e',i',k',kn'⟩ ⟨e,he,hfe,he60,hk0,hI'⟩ X hX
    dsimp only at he hk0 hI' hX
    subst he hk0
    dsimp only
    unfold VCc85y9_l1
    refine ⟨fun hb=>?_,fun hb=>?_⟩
    ·simp only [decide_eq_true_eq] at hb
     refine VC54_of (by rw [hl];omega) ⟨by (first | unfold roomW | unfold roomN);rw [hl];simp only [List.length_cons,List.length_nil];omega,?_⟩
     have e1:ints hv++[(e:Int)]=ints (hv++[e]):=by simp
     rw [e1]
     refine ih (q+1) (hv++[e]) e (by omega) (by omega) (by simp;omega) (by simp) (by omega) ((((List.range (j0-(e+1))).map (· + (e+1))).flatMap fun m=>(cutsL (q+1) m j0).map (m::·)).map (hv++·)++rest) i' kn' _ ?_ (fun i2 kn2 h=>?_) (fun k i2 kn2 h=>?_)
     ·have e2:j0-e=(j0-(e+1))+1:=by omega
      rw [e2,List.range_succ_eq_map] at hI'
      simp only [List.map_cons,List.map_map,List.flatMap_cons,List.map_append,List.append_assoc] at hI'
      simp only [List.append_assoc,List.cons_append,List.nil_append]
      have e3:((fun x=>x+e)∘Nat.succ)=fun x=>x+(e+1):=by funext x;simp only [Function.comp];omega
      rw [e3,Nat.zero_add] at hI'
      have e4:(cutsL (q+1) e j0).map ((fun x=>hv++x)∘fun x=>e::x)=(cutsL (q+1) e j0).map fun x=>hv++e::x:=rfl
      rw [e4] at hI'
      exact hI'
     ·unfold VCc85y9_k4
      exact ⟨fun h=>(by cases h),fun _=>⟨by unfold InR;omega,hX _ ⟨e+1,by simp,by omega,by omega,rfl,h⟩ (by dsimp only;omega)⟩⟩
     ·unfold VCc85y9_k4
      exact ⟨fun _=>hF _ _ _ h,fun h=>(by cases h)⟩
    ·simp only [decide_eq_false_iff_not] at hb
     unfold VCc85y9_k3
     have e2:j0-e=0:=by omega
     rw [e2] at hI'
     exact hK _ _ (by simpa using hI')
   refine ⟨fun hb=>?_,fun hb=>?_⟩
   ·simp only [decide_eq_true_eq] at hb
    refine ⟨by unfold InR;omega,⟨by omega,by omega⟩,?_⟩
    have e1:(ints hv).getD (((hv.length:Int)-1)).toNat 0=(from_:Int):=by
     rw [show ((hv.length:Int)-1).toNat=hv.length-1 by omega,←hfrom,List.getLast?_eq_getElem?,List.getD_eq_getElem?_getD,List.getElem?_map,List.getElem?_eq_getElem (show hv.length-1<hv.length by omega)]
     rfl
    rw [e1]
    exact hk2
   ·simp only [decide_eq_false_iff_not] at hb
    have:hv=[]:=List.length_eq_zero_iff.1 (by omega)
    subst this
    have e0:i0=from_:=by simpa using hfrom
    rw [←e0] at hk2
    exact hk2
end
end Dec
namespace Dec
open Go Go.Proofs Cfg
def RowOf (S:Int→Nat→Nat→List Int→Tree→Prop):List Int→Nat→List Nat→List Int→List Tree→Prop
 | [],_,es,a,ts=>es=[]∧a=[]∧ts=[]
 | s::l,i,es,a,ts=>∃ e es' a1 a2 t ts',es=e::es'∧a=a1++a2∧ts=t::ts'∧S s i e a1 t∧RowOf S l e es' a2 ts'
def TreeOf (g:Gr) (w:List Int):Nat→Int→Nat→Nat→List Int→Tree→Prop
 | 0,_,_,_,_,_=>False
 | f+1,s,i,j,a,t=>t.word.length=j-i∧i<j∧((s<g.1∧j=i+1∧w[i]? = some s∧a=[]∧t.rule = -1)∨(¬s<g.1∧∃ (k:Nat) (es:List Nat) (a':List Int),k<g.2.2.2.length∧(g.2.2.2.getD k (0,[])).1=s-g.1∧es∈cutsL (g.2.2.2.getD k (0,[])).2.length i j∧a=(k:Int)::a'∧t.rule=(k:Int)∧RowOf (TreeOf g w f) (g.2.2.2.getD k (0,[])).2 i es a' t.kids))
section
variable {g:Gr} {w:List Int}
theorem row_mem {S:Int→Nat→Nat→List Int→Tree→Prop} {T:Int→Nat→Nat→List (List Int)} {N:Nat} (hS:∀ s i j a t,S s i j a t→j≤N→a∈T s i j):∀ (l:List Int) (i:Nat) (es:List Nat) (a:List Int) (ts:List Tree),RowOf S l i es a ts→Chain N i es→a∈prodT T l i es
 | [],i,es,a,ts,h,_=>by
  obtain ⟨_,rfl,_⟩:=h
  simp [prodT]
 | s::l,i,es,a,ts,h,hc=>by
  obtain ⟨e,es',a1,a2,t,ts',rfl,rfl,rfl,h1,h2⟩:=h
  simp only [prodT,List.mem_flatMap,List.mem_map]
  exact ⟨a1,hS s i e a1 t h1 hc.2.1,a2,row_mem hS l e es' a2 ts' h2 hc.2.2,rfl⟩
theorem mem_blk (hp:Prop1 g) {s:Int} (hs:¬s<g.1) {i j:Nat} (hj:j≤w.length) {k:Nat} (hk:k<g.2.2.2.length) (hl:(g.2.2.2.getD k (0,[])).1=s-g.1) {a:List Int} (ha:a∈rowT (SG g w) (g.2.2.2.getD k (0,[])).2 i j):(k:Int)::a∈SG g w s i j:=by
 rw [sg_blk hp hs hj]
 unfold from_
 rw [List.drop_zero]
 refine List.mem_flatMap.2 ⟨k,List.mem_range.2 hk,?_⟩
 unfold blg
 rw [if_pos hl]
 exact List.mem_map.2 ⟨a,ha,rfl⟩
theorem tree_mem (hp:Prop1 g):∀ (f:Nat) (s:Int) (i j:Nat) (a:List Int) (t:Tree),TreeOf g w f s i j a t→j≤w.length→a∈SG g w s i j
 | 0,_,_,_,_,_,h,_=>h.elim
 | f+1,s,i,j,a,t,⟨_,hij,h⟩,hj=>by
  rcases h with ⟨hs,rfl,hw,rfl,_⟩ | ⟨hs,k,es,a',hk,hl,he,rfl,_,hr⟩
  ·unfold SG
   rw [sgnT_sym hs,if_pos ⟨rfl,hw⟩]
   simp
  ·refine mem_blk hp hs hj hk hl ?_
   unfold rowT
   exact List.mem_flatMap.2 ⟨es,he,row_mem (N:=w.length) (fun s i j a t h hj=>tree_mem hp f s i j a t h hj) _ _ _ _ _ hr ((cuts_sc _ _ _ _ hij he).chain hj)⟩
def At (w:List Int) (i:Nat) (u:List Int):Prop:=i+u.length≤w.length∧∀ x,x<u.length→w[i+x]? = u[x]?
theorem At.split {i:Nat} {u v:List Int} (h:At w i (u++v)):At w i u∧At w (i+u.length) v:=by
 obtain ⟨h1,h2⟩:=h
 rw [List.length_append] at h1
 refine ⟨⟨by omega,fun x hx=>?_⟩,by omega,fun x hx=>?_⟩
 ·rw [h2 x (by rw [List.length_append];omega),List.getElem?_append_left hx]
 ·have:=h2 (u.length+x) (by rw [List.length_append];omega)
  rw [List.getElem?_append_right (by omega),Nat.add_sub_cancel_left] at this
  rw [Nat.add_assoc]
  exact this
theorem At.join {i:Nat} {u v:List Int} (h1:At w i u) (h2:At w (i+u.length) v):At w i (u++v):=by
 refine ⟨by have:=h2.1;rw [List.length_append];omega,fun x hx=>?_⟩
 rw [List.length_append] at hx
 by_cases hlt:x<u.length
 ·rw [List.getElem?_append_left hlt];exact h1.2 x hlt
 ·rw [List.getElem?_append_right (by omega),←h2.2 (x-u.length) (by omega)]
  congr 1;omega
theorem cuts_cons {n m i j:Nat} {es:List Nat} (h1:i<m) (h2:m<j) (h:es∈cutsL (n+1) m j):m::es∈cutsL (n+2) i j:=by
 rw [cutsL_succ,List.mem_flatMap]
 refine ⟨m,List.mem_map.2 ⟨m-(i+1),List.mem_range.2 (by omega),by omega⟩,List.mem_map.2 ⟨es,h,rfl⟩⟩
theorem growL_tree {S:Int→List Int→Option (Tree×List Int)} {T:Int→Nat→Nat→List Int→Tree→Prop}
  (hS:∀ s st t r i,S s st=some (t,r)→At w i t.word→∃ a,st=a++r∧T s i (i+t.word.length) a t∧0<t.word.length) :
  ∀ (l:List Int) (st:List Int) (ts:List Tree) (wd r:List Int) (i:Nat),l≠[]→growL S l st=some (ts,wd,r)→At w i wd→∃ es a,st=a++r∧es∈cutsL l.length i (i+wd.length)∧RowOf T l i es a ts∧0<wd.length
 | [],_,_,_,_,_,h,_,_=>absurd rfl h
 | [s],st,ts,wd,r,i,_,h,hat=>by
  rw [growL] at h
  cases h1:S s st with
  | none=>rw [h1] at h;cases h
  | some z =>
   rw [h1] at h
   simp only [Option.bind_some,growL] at h
   injection h with h;injection h with h2 h3;injection h3 with h3 h4
   subst h2 h3 h4
   rw [List.append_nil] at hat ⊢
   obtain ⟨a,e,ht,hpos⟩:=hS s st z.1 z.2 i h1 hat
   exact ⟨[i+z.1.word.length],a,e,by simp [cutsL],⟨_,[],a,[],z.1,[],rfl,by simp,rfl,ht,rfl,rfl,rfl⟩,hpos⟩
 | s::s'::l,st,ts,wd,r,i,_,h,hat=>by
  rw [growL] at h
  cases h1:S s st with
  | none=>rw [h1] at h;cases h
  | some z =>
   rw [h1] at h
   simp only [Option.bind_some] at h
   cases h2:growL S (s'::l) z.2 with
   | none=>rw [h2] at h;cases h
   | some q =>
    rw [h2] at h
    simp only [Option.bind_some] at h
    injection h with h;injection h with h3 h4;injection h4 with h4 h5
    subst h3 h4 h5
    obtain ⟨ha1,ha2⟩:=hat.split
    obtain ⟨a,e,ht,hpos⟩:=hS s st z.1 z.2 i h1 ha1
    obtain ⟨es,b,e2,hes,hrow,hpos2⟩:=growL_tree hS (s'::l) z.2 q.1 q.2.1 q.2.2 (i+z.1.word.length) (by simp) h2 ha2
    rw [Nat.add_assoc,←List.length_append] at hes
    refine ⟨(i+z.1.word.length)::es,a++b,by rw [e,e2,List.append_assoc],cuts_cons (by omega) (by rw [List.length_append];omega) hes,⟨_,es,a,b,z.1,q.1,rfl,rfl,rfl,ht,hrow⟩,by rw [List.length_append];omega⟩
theorem gro_tree (hp:Prop1 g):∀ (f:Nat) (s:Int) (st:List Int) (t:Tree) (r:List Int) (i:Nat),growF g f s st=some (t,r)→At w i t.word→∃ a,st=a++r∧TreeOf g w f s i (i+t.word.length) a t∧0<t.word.length
 | 0,_,_,_,_,_,h,_=>by cases h
 | f+1,s,st,t,r,i,h,hat=>by
  by_cases hs:s<g.1
  ·rw [growF_sym hs] at h
   injection h with h;injection h with h1 h2
   subst h1 h2
   refine ⟨[],rfl,⟨by show (1:Nat)=_;simp [Tree.word],by simp [Tree.word],.inl ⟨hs,rfl,?_,rfl,rfl⟩⟩,by simp [Tree.word]⟩
   have:=hat.2 0 (by simp [Tree.word])
   simpa [Tree.word] using this
  ·cases st with
   | nil=>rw [growF_nil hs] at h;cases h
   | cons k st =>
    rw [growF_cons hs] at h
    split at h
    ·rename_i hk
     obtain ⟨hk0,hk1,hk2⟩:=hk
     obtain ⟨n,rfl⟩:=Int.eq_ofNat_of_zero_le hk0
     simp only [Int.toNat_natCast] at hk2 h
     cases h1:growL (growF g f) (g.2.2.2.getD n (0,[])).2 st with
     | none=>rw [h1] at h;cases h
     | some y =>
      rw [h1] at h
      simp only [Option.bind_some] at h
      injection h with h;injection h with h2 h3
      subst h2 h3
      have hn:n<g.2.2.2.length:=by omega
      obtain ⟨hne,_⟩:=hp _ (getD_mem (d:=((0:Int),([]:List Int))) hn)
      obtain ⟨es,a,e,hes,hrow,hpos⟩:=growL_tree (T:=TreeOf g w f) (fun s st t r i h hat=>gro_tree hp f s st t r i h hat) _ st y.1 y.2.1 y.2.2 i hne h1 hat
      refine ⟨(n:Int)::a,by rw [e];rfl,⟨by simp [Tree.word],by simp only [Tree.word];omega,.inr ⟨hs,n,es,a,hn,hk2,hes,rfl,rfl,hrow⟩⟩,hpos⟩
    ·cases h
theorem growL_mem {S:Int→List Int→Option (Tree×List Int)} {T:Int→Nat→Nat→List (List Int)} (hS:∀ s i j a,i≤j→j≤w.length→a∈T s i j→∃ t:Tree,(∀ r,S s (a++r)=some (t,r))∧t.word.length=j-i∧At w i t.word) :
  ∀ (l:List Int) (i j:Nat) (es:List Nat) (a:List Int),i≤j→j≤w.length→es∈cutsL l.length i j→a∈prodT T l i es→∃ (ts:List Tree) (wd:List Int),(∀ r,growL S l (a++r)=some (ts,wd,r))∧wd.length=j-i∧At w i wd
 | [],i,j,es,a,_,_,he,_=>by simp [cutsL] at he
 | [s],i,j,es,a,hij,hj,he,ha=>by
  simp [cutsL] at he
  subst he
  simp only [prodT,List.mem_flatMap] at ha
  obtain ⟨b,hb,h2⟩:=ha
  have e:a=b:=by simpa using h2
  subst e
  obtain ⟨t,h1,h2,h3⟩:=hS s i j a hij hj hb
  refine ⟨[t],t.word,fun r=>?_,h2,h3⟩
  rw [growL,h1 r]
  simp [growL]
 | s::s'::l,i,j,es,a,hij,hj,he,ha=>by
  rw [show (s::s'::l).length=l.length+2 from rfl,cutsL_succ,List.mem_flatMap] at he
  obtain ⟨m,hm,he⟩:=he
  obtain ⟨q,hq,rfl⟩:=List.mem_map.1 he
  obtain ⟨z,hz,rfl⟩:=List.mem_map.1 hm
  have hz':=List.mem_range.1 hz
  have ha':a∈(T s i (z+(i+1))).flatMap fun b=>(prodT T (s'::l) (z+(i+1)) q).map (b++·):=ha
  obtain ⟨b,hb,h2⟩:=List.mem_flatMap.1 ha'
  obtain ⟨c,hc,rfl⟩:=List.mem_map.1 h2
  obtain ⟨t,h3,h4,h5⟩:=hS s i _ b (by omega) (by omega) hb
  obtain ⟨ts,wd,h6,h7,h8⟩:=growL_mem hS (s'::l) (z+(i+1)) j q c (by omega) hj hq hc
  refine ⟨t::ts,t.word++wd,fun r=>?_,by rw [List.length_append];omega,h5.join (by rw [h4,show i+(z+(i+1)-i)=z+(i+1) by omega];exact h8)⟩
  rw [growL,List.append_assoc,h3]
  simp only [Option.bind_some]
  rw [h6]
  rfl
theorem mem_grow:∀ (n f:Nat) (s:Int) (i j:Nat) (a:List Int),n+1≤f→i≤j→j≤w.length→a∈sgnT g.1 g.2.2.2 w n s i j→∃ t:Tree,(∀ r,growF g f s (a++r)=some (t,r))∧t.word.length=j-i∧At w i t.word
 | n,0,s,i,j,a,hf,_,_,_=>by omega
 | n,f+1,s,i,j,a,hf,hij,hj,ha=>by
  by_cases hs:s<g.1
  ·rw [sgnT_sym hs] at ha
   split at ha
   ·rename_i h
    obtain ⟨rfl,hw⟩:=h
    have e:a=[]:=by simpa using ha
    subst e
    refine ⟨_,fun r=>growF_sym hs,by simp [Tree.word],by simp only [Tree.word,List.length_singleton];omega,fun x hx=>?_⟩
    simp only [Tree.word,List.length_singleton] at hx
    have:x=0:=by omega
    subst this
    simp [Tree.word,hw]
   ·cases ha
  ·cases n with
   | zero=>rw [sgnT,if_neg hs] at ha;cases ha
   | succ n =>
    obtain ⟨k,hk,hl,a',h3,rfl⟩:=mem_name hs ha
    obtain ⟨es,h4,h5⟩:=List.mem_flatMap.1 h3
    obtain ⟨ts,wd,h6,h7,h8⟩:=growL_mem (S:=growF g f) (fun s i j a hij hj h=>mem_grow n f s i j a (by omega) hij hj h) _ i j es a' hij hj h4 h5
    refine ⟨.node (k:Int) ts wd,fun r=>?_,h7,h8⟩
    rw [List.cons_append,growF_cons hs,Int.toNat_natCast,if_pos ⟨by omega,by omega,hl⟩,h6 r]
    rfl
theorem At.full {u:List Int} (h:At w 0 u) (hl:u.length=w.length):u=w:=by
 refine List.ext_getElem? fun x=>?_
 by_cases hx:x<u.length
 ·have:=h.2 x hx
  rw [Nat.zero_add] at this
  exact this.symm
 ·rw [List.getElem?_eq_none (by omega),List.getElem?_eq_none (by omega)]
theorem At.whole:At w 0 w:=⟨by omega,fun x _=>by rw [Nat.zero_add]⟩
end
end Dec
namespace Dec
open Go Go.Proofs Cfg
theorem RowOf.len {S:Int→Nat→Nat→List Int→Tree→Prop} : ∀ {l:List Int} {i:Nat} {es:List Nat} {a:List Int} {ts:List Tree},RowOf S l i es a ts→ts.length=l.length
 | [],_,_,_,_,h=>by rw [h.2.2];rfl
 | s::l,_,_,_,_,⟨e,es',a1,a2,t,ts',_,_,h3,_,h5⟩=>by rw [h3,List.length_cons,List.length_cons,h5.len]
theorem at_drop {α:Type} {l:List α} {v:Nat} {x:α} {r:List α} (h:l.drop v=x::r) (d:α):v<l.length∧l.getD v d=x∧l.drop (v+1)=r:=by
 have hv:v<l.length:=by
  refine Nat.lt_of_not_le fun hle=>?_
  rw [List.drop_eq_nil_of_le hle] at h
  cases h
 rw [List.drop_eq_getElem_cons hv] at h
 injection h with h1 h2
 exact ⟨hv,by rw [getD_lt _ hv,h1],h2⟩
theorem mem_pos {l:List (List Int)} {a:List Int} (h:a∈l):∃ q,q<l.length∧l.getD q []=a:=by
 obtain ⟨q,hq,e⟩:=List.mem_iff_getElem.1 h
 exact ⟨q,hq,by rw [getD_lt _ hq,e]⟩
theorem ints_inj {a b:List Nat} : ints a=ints b↔a=b:=by
 constructor
 ·intro h
  refine List.ext_getElem? fun x=>?_
  have:=congrArg (fun l:List Int=>l[x]?) h
  simp only [ints,List.getElem?_map] at this
  cases h1:a[x]? with
  | none=>cases h2:b[x]? with
   | none=>rfl
   | some v=>rw [h1,h2] at this;simp at this
  | some u=>cases h2:b[x]? with
   | none=>rw [h1,h2] at this;simp at this
   | some v=>rw [h1,h2] at this;injection this with this;exact congrArg some (Int.ofNat.inj this)
 ·intro h;rw [h]
theorem VC60_of {a b:List Int} (hl:a.length≤1000) {K:Bool→Prop} (h:K (decide (a=b))):VC60 a b K:=by
 unfold VC60
 refine ⟨fun hne=>?_,fun heq=>?_⟩
 ·have:a≠b:=by
   intro e
   simp only [Bool.not_eq_true',decide_eq_false_iff_not] at hne
   exact hne (by rw [e])
  rwa [decide_eq_false this] at h
 ·have hlen:a.length=b.length:=by
   simp only [Bool.not_eq_false',decide_eq_true_eq] at heq
   omega
  refine loop_count a.length (fun i=>∀ j,j<i→a.getD j 0=b.getD j 0) (by intro j hj;omega) ?_
  intro i hi hP X hX
  unfold VC60_l1
  simp only [Int.toNat_natCast]
  refine ⟨fun hb=>?_,fun hb=>?_⟩
  ·simp only [decide_eq_true_eq] at hb
   refine ⟨⟨by omega,by omega⟩,⟨by omega,by omega⟩,fun hd=>?_,fun hs=>⟨by unfold InR;omega,hX (by omega) fun j hj=>?_⟩⟩
   ·simp only [Bool.not_eq_true',decide_eq_false_iff_not] at hd
    have:a≠b:=fun e=>hd (by rw [e])
    rwa [decide_eq_false this] at h
   ·simp only [Bool.not_eq_false',decide_eq_true_eq] at hs
    by_cases e:j<i
    ·exact hP j e
    ·have:j=i:=by omega
     subst this
     exact hs
  ·simp only [decide_eq_false_iff_not] at hb
   unfold VC60_k1
   have:a=b:=ext_getD 0 hlen fun j hj=>hP j (by omega)
   rwa [decide_eq_true this] at h
section
variable {g:Gr} {w:List Int}
theorem TreeOf.wd:∀ {f:Nat} {s:Int} {i j:Nat} {a:List Int} {t:Tree},TreeOf g w f s i j a t→t.word.length=j-i∧i<j
 | 0,_,_,_,_,_,h=>h.elim
 | _+1,_,_,_,_,_,h=>⟨h.1,h.2.1⟩
def preB (g:Gr) (w:List Int) (s:Int) (i j k:Nat):List (List Int):=((List.range g.2.2.2.length).take k).flatMap (blg g w s i j)
theorem pre_from (hp:Prop1 g) {s:Int} (hs:¬s<g.1) {i j:Nat} (hj:j≤w.length) (k:Nat):SG g w s i j=preB g w s i j k++from_ g w s i j k:=by
 rw [sg_blk hp hs hj]
 unfold preB from_
 rw [List.drop_zero,←List.flatMap_append,List.take_append_drop]
theorem preB_succ {s:Int} {i j k:Nat} (hk:k<g.2.2.2.length):preB g w s i j (k+1)=preB g w s i j k++blg g w s i j k:=by
 unfold preB
 rw [List.take_add_one,List.getElem?_eq_getElem (by simpa using hk),List.getElem_range]
 simp
theorem blk_len {s:Int} {i j k:Nat} : (blg g w s i j k).length=if (g.2.2.2.getD k (0,[])).1=s-g.1 then cntR g w (g.2.2.2.getD k (0,[])).2 i j else 0:=by
 unfold blg
 split
 ·rw [List.length_map];rfl
 ·rfl
theorem pos_final (hp:Prop1 g) {s:Int} (hs:¬s<g.1) {i j:Nat} (hj:j≤w.length) {k:Nat} (hk:k<g.2.2.2.length) (hl:(g.2.2.2.getD k (0,[])).1=s-g.1) {L:List Int} (hL:(g.2.2.2.getD k (0,[])).2=L) {pre post:List (List Nat)} {es:List Nat} (hc:cutsL L.length i j=pre++es::post) :
  (preB g w s i j k).length+(pre.flatMap (prodT (SG g w) L i)).length+(prodT (SG g w) L i es).length≤cntS g w s i j ∧
  ∀ q,q<(prodT (SG g w) L i es).length→(SG g w s i j).getD ((preB g w s i j k).length+(pre.flatMap (prodT (SG g w) L i)).length+q) []=(k:Int)::(prodT (SG g w) L i es).getD q []:=by
 have e:SG g w s i j=preB g w s i j k++(((pre.flatMap (prodT (SG g w) L i))++((prodT (SG g w) L i es)++post.flatMap (prodT (SG g w) L i))).map ((k:Int)::·)++from_ g w s i j (k+1)):=by
  rw [pre_from hp hs hj k,from_succ hk]
  congr 1
  congr 1
  unfold blg rowT
  rw [if_pos hl,hL,hc,List.flatMap_append,List.flatMap_cons]
 unfold cntS
 constructor
 ·rw [e]
  simp only [List.length_append,List.length_map]
  omega
 ·intro q hq
  rw [e,getD_append_r (by omega),getD_append_l (by simp only [List.length_append,List.length_map];omega),getD_map' (d:=[]) (by simp only [List.length_append];omega)]
  congr 1
  rw [getD_append_r (by omega),getD_append_l (by omega)]
  congr 1
  omega
def PlI (g:Gr) (w:List Int) (B:Nat) (L:List Int) (i j:Nat) (es:List Nat) (l:List (List Nat)) (n:Int) (kn:Kn):Prop :=
 KnOk g w kn∧∃ pre,pre++l=cutsL L.length i j∧es∉pre∧n=((B+(pre.flatMap (prodT (SG g w) L i)).length:Nat):Int)
def PlF (g:Gr) (w:List Int) (B:Nat) (L:List Int) (i j:Nat) (es:List Nat) (k n:Int) (kn:Kn):Prop :=
 k=6∧KnOk g w kn∧∃ pre post,cutsL L.length i j=pre++es::post∧n=((B+(pre.flatMap (prodT (SG g w) L i)).length:Nat):Int)
set_option maxHeartbeats 4000000 in
theorem place_of (hg:GoodG g) (hw:GoodW g.1 w) (hp:Prop1 g):∀ (f:Nat) (s:Int) (i j:Nat) (a:List Int) (t:Tree) (kn:Kn) (K:Int×Kn→Prop),TreeOf g w f s i j a t→j≤w.length→0≤s∧s<g.1+g.2.1→(cntS g w s i j:Int)≤1099511627776→KnOk g w kn →
  (∀ (p:Nat) kn',KnOk g w kn'→p<cntS g w s i j→(SG g w s i j).getD p []=a→K ((p:Int),kn'))→VCc61_it g.1 g.2.1 g.2.2.1 g.2.2.2 w f t.rule t.kids t.word (i:Int) (j:Int) kn K:=by
 intro f
 induction f with
 | zero=>intro s i j a t kn K h;exact h.elim
 | succ f ih =>
  intro s i j a t kn K ht hj hsr hcap hk hK
  obtain ⟨hwl,hij,ht⟩:=ht
  have hk3:=hg.k
  have hn5:=hg.n
  have hfew:=hg.few
  have hw12:=hw.1
  show VCc61 g.1 g.2.1 g.2.2.1 g.2.2.2 w (VCc61_it g.1 g.2.1 g.2.2.1 g.2.2.2 w f) t.rule t.kids t.word (i:Int) (j:Int) kn K
  unfold VCc61
  rcases ht with ⟨hs,rfl,hws,rfl,hrule⟩ | ⟨hs,k,es,a',hkl,hleft,hes,rfl,hrule,hrow⟩
  ·rw [hrule]
   refine ⟨fun _=>?_,fun h=>(by simp at h)⟩
   have e:SG g w s i (i+1)=[[]]:=by unfold SG;rw [sgnT_sym hs,if_pos ⟨rfl,hws⟩]
   have:=hK 0 kn hk (by unfold cntS;rw [e];simp) (by rw [e];rfl)
   exact this
  ·rw [hrule]
   have hmem:g.2.2.2.getD k (0,[])∈g.2.2.2:=getD_mem hkl
   have hshort:=hg.short _ hmem
   have hright:=hg.right _ hmem
   obtain ⟨hne,hlone⟩:=hp _ hmem
   have hpos:0<(g.2.2.2.getD k (0,[])).2.length:=List.length_pos_iff.2 hne
   obtain ⟨L,hL⟩:∃ L,(g.2.2.2.getD k (0,[])).2=L:=⟨_,rfl⟩
   have hsc:=cuts_sc _ i j es hij hes
   have hesl:=(cutsL_mem _ _ _ _ hes).1
   rw [hL] at hshort hright hpos hes hesl hrow
   have hkidl:=hrow.len
   refine ⟨fun h=>(by simp only [decide_eq_true_eq] at h;omega),fun _=>⟨⟨by omega,by omega⟩,?_⟩⟩
   refine Loop.by (fun q:Int×Int×List Int=>∃ v av:Nat,∃ ar,q.2.1=(v:Int)∧v≤L.length∧q.1=(av:Int)∧q.2.2=ints (es.take v)∧SC av (es.drop v) j∧RowOf (TreeOf g w f) (L.drop v) av (es.drop v) ar (t.kids.drop v)) (fun q=>((L.length:Int)-q.2.1).toNat) ⟨0,i,a',rfl,by omega,rfl,by simp,by simpa using hsc,by simpa using hrow⟩ ?_
   rintro ⟨at_,v',own⟩ ⟨v,av,ar,e,hv,eat,eown,hsc',hrow'⟩ X hX
   dsimp only at e eat eown hX
   subst e eat eown
   dsimp only
   unfold VCc61_l3
   simp only [Int.toNat_natCast]
   refine ⟨fun hb=>?_,fun hb=>?_⟩
   ·simp only [decide_eq_true_eq] at hb
    have hvL:v<L.length:=by omega
    have eL:L.drop v=L.getD v 0::L.drop (v+1):=by rw [List.drop_eq_getElem_cons hvL,getD_lt _ hvL]
    rw [eL] at hrow'
    obtain ⟨e,es',a1,a2,tt,ts',h1,h2,h3,h4,h5⟩:=hrow'
    rw [h1] at hsc'
    obtain ⟨d1,d2,d3⟩:=hsc'
    obtain ⟨hve,ee,ed⟩:=at_drop h1 0
    obtain ⟨hvt,et,etd⟩:=at_drop h3 (Tree.node 0 [] [])
    have hwd:=h4.wd.1
    rw [et,hwd]
    refine ⟨⟨by omega,by omega⟩,by unfold InR;omega,?_,by unfold InR;omega,hX _ ⟨v+1,e,a2,by simp,by omega,by dsimp only;omega,?_,by rw [ed];exact d3,by rw [ed,etd];exact h5⟩ (by dsimp only;omega)⟩
    ·(first | unfold roomW | unfold roomN)
     simp only [List.length_map,List.length_take,List.length_cons,List.length_nil]
     omega
    ·dsimp only
     rw [List.take_add_one,getD_opt (d:=0) hve,ee]
     simp only [ints,Option.toList_some,List.map_append,List.map_cons,List.map_nil]
     congr 2
     show (av:Int)+((e-av:Nat):Int)=(e:Int)
     omega
   ·simp only [decide_eq_false_iff_not] at hb
    have ev:v=L.length:=by omega
    subst ev
    rw [List.take_of_length_le (by omega)]
    clear hrow' hsc' hX
    have hpre:∀ v,(preB g w s i j v).length≤cntS g w s i j:=by
     intro v
     unfold cntS
     rw [pre_from hp hs hj v,List.length_append]
     omega
    unfold VCc61_k1
    refine Loop.by (fun q:Int×Int×Kn=>∃ v:Nat,q.1=(v:Int)∧v≤k∧q.2.1=((preB g w s i j v).length:Int)∧KnOk g w q.2.2) (fun q=>((k:Int)-q.1).toNat) ⟨0,rfl,by omega,by simp [preB],hk⟩ ?_
    rintro ⟨v',n',kn1⟩ ⟨v,e,hv,en,hk1⟩ X hX
    dsimp only at e en hk1 hX
    subst e en
    dsimp only
    unfold VCc61_l2
    simp only [Int.toNat_natCast]
    refine ⟨fun hb=>?_,fun hb=>?_⟩
    ·simp only [decide_eq_true_eq] at hb
     have hvl:v<g.2.2.2.length:=by omega
     have hvm:g.2.2.2.getD v (0,[])∈g.2.2.2:=getD_mem hvl
     have hlen:=preB_succ (w:=w) (s:=s) (i:=i) (j:=j) hvl
     have hcap':=hpre (v+1)
     simp only [hleft]
     refine ⟨⟨by omega,by omega⟩,fun hhit=>?_,fun hmiss=>?_⟩
     ·simp only [decide_eq_true_eq] at hhit
      refine ⟨2*w.length+1,row_of hg hw hp _ v 0 i j kn1 _ (by rw [if_pos rfl];omega) hvl (List.length_pos_iff.2 (hp _ hvm).1) (by omega) hj hk1 (fun r kn' hk' hr=>?_)⟩
      rw [List.drop_zero] at hr
      have hbl:=blk_len (g:=g) (w:=w) (s:=s) (i:=i) (j:=j) (k:=v)
      rw [if_pos hhit] at hbl
      rw [hlen,List.length_append,hbl] at hcap'
      have er:r=(cntR g w (g.2.2.2.getD v (0,[])).2 i j:Int):=by unfold CapV at hr;omega
      unfold VCc61_k8 VCc61_k7
      dsimp only
      rw [er]
      refine ⟨by unfold InR;omega,by unfold InR;omega,hX _ ⟨v+1,by simp,by omega,?_,hk'⟩ (by dsimp only;omega)⟩
      dsimp only
      rw [hlen,List.length_append,hbl]
      push_cast
      rfl
     ·simp only [decide_eq_false_iff_not] at hmiss
      have hbl:=blk_len (g:=g) (w:=w) (s:=s) (i:=i) (j:=j) (k:=v)
      rw [if_neg hmiss] at hbl
      unfold VCc61_k7
      refine ⟨by unfold InR;omega,hX _ ⟨v+1,by simp,by omega,?_,hk1⟩ (by dsimp only;omega)⟩
      dsimp only
      rw [hlen,List.length_append,hbl]
      push_cast
      omega
    ·simp only [decide_eq_false_iff_not] at hb
     have ev:v=k:=by omega
     subst ev
     clear hX
     unfold VCc61_k2
     simp only [Int.toNat_natCast,hL]
     refine ⟨L.length+1,?_⟩
     have hB0:=hpre v
     have key:=choose9_of (c1:=g.1) (c2:=g.2.1) (c3:=g.2.2.1) (c4:=g.2.2.2) (c5:=w) (c7:=(v:Int)) (c8:=t.kids) (c9:=t.word) (c10:=(i:Int)) (c11:=(j:Int)) (c12:=(g.2.2.2.getD v (0,[])).1) (c13:=L) (c14:=ints es) (Y:=VCc61_y1 g.1 g.2.1 g.2.2.1 g.2.2.2 w (v:Int) (i:Int) (ints es)) (parts:=L.length) (i0:=i) (j0:=j) (I:=PlI g w (preB g w s i j v).length L i j es) (F:=PlF g w (preB g w s i j v).length L i j es) ⟨hpos,by omega⟩ (by omega) (by omega) ?_
      (L.length+1) L.length [] i (by omega) hpos (by simp) rfl (by omega) [] ((preB g w s i j v).length:Int) kn1
     ·refine key _ ?_ (fun n' kn' h=>?_) (fun k' n' kn' h=>?_)
      ·exact ⟨hk1,[],by simp,by simp,by simp⟩
      ·exfalso
       obtain ⟨_,pre,h1,h2,_⟩:=h
       rw [List.append_nil] at h1
       rw [h1] at h2
       exact h2 hes
      ·dsimp only
       obtain ⟨rfl,hk2,pre,post,hcut,en⟩:=h
       refine ⟨fun h=>(by cases h),fun _=>⟨rfl,?_⟩⟩
       obtain ⟨hB,hfin⟩:=pos_final hp hs hj hkl hleft hL hcut
       subst en
       obtain ⟨B,hBe⟩:∃ B,(preB g w s i j v).length+(pre.flatMap (prodT (SG g w) L i)).length=B:=⟨_,rfl⟩
       rw [hBe] at hB hfin
       unfold VCc61_k3
       refine VC70_of (by rw [List.length_map];omega) ?_
       have hmemA:∀ (l:List Int) (x:Nat) (es:List Nat) (a:List Int) (ts:List Tree),RowOf (TreeOf g w f) l x es a ts→Chain w.length x es→a∈prodT (SG g w) l x es:=fun l x es a ts h1 h2=>row_mem (N:=w.length) (fun s i j a t h hj=>tree_mem hp f s i j a t h hj) l x es a ts h1 h2
       refine Loop.by (fun q:Int×Int×Kn=>∃ v av d:Nat,∃ ar,q.1=(v:Int)∧v≤L.length∧q.2.1=((B+d:Nat):Int)∧KnOk g w q.2.2∧SC av (es.drop v) j∧RowOf (TreeOf g w f) (L.drop v) av (es.drop v) ar (t.kids.drop v)∧(rangesL (i:Int) (ints es)).drop v=rangesL (av:Int) (ints (es.drop v))∧(prodT (SG g w) (L.drop v) av (es.drop v)).length≤(prodT (SG g w) L i es).length ∧
        ∀ q,q<(prodT (SG g w) (L.drop v) av (es.drop v)).length→(prodT (SG g w) (L.drop v) av (es.drop v)).getD q []=ar→d+q<(prodT (SG g w) L i es).length∧(prodT (SG g w) L i es).getD (d+q) []=a') (fun q=>((L.length:Int)-q.1).toNat)
        ⟨0,i,0,a',rfl,by omega,by dsimp only;omega,hk2,by simpa using hsc,by simpa using hrow,by simp,by simp,fun q h1 h2=>by simp only [List.drop_zero] at h1 h2;rw [Nat.zero_add];exact ⟨h1,h2⟩⟩ ?_
       rintro ⟨v',n3,kn3⟩ ⟨u,av,d,ar,e,hv',en,hk4,hsc',hrow',hrng,hple,hq⟩ X hX
       dsimp only at e en hk4 hX
       subst e en
       dsimp only
       unfold VCc61_l1
       simp only [Int.toNat_natCast,hL]
       refine ⟨fun hb=>?_,fun hb=>?_⟩
       ·simp only [decide_eq_true_eq] at hb
        have huL:u<L.length:=by omega
        have eL:L.drop u=L.getD u 0::L.drop (u+1):=by rw [List.drop_eq_getElem_cons huL,getD_lt _ huL]
        obtain ⟨sg,hsg⟩:∃ sg,L.getD u 0=sg:=⟨_,rfl⟩
        rw [hsg] at eL
        have hsgm:sg∈L:=by rw [←hsg];exact getD_mem huL
        rw [eL] at hrow' hple hq
        obtain ⟨e,es',a1,a2,tt,ts',h1,h2,h3,h4,h5⟩:=hrow'
        rw [h1] at hsc' hrng hple hq
        obtain ⟨d1,d2,d3⟩:=hsc'
        obtain ⟨hve,ee,ed⟩:=at_drop h1 0
        obtain ⟨hvt,et,etd⟩:=at_drop h3 (Tree.node 0 [] [])
        subst h2
        rw [prodT_len] at hple
        have hch:=d3.chain hj
        have hm1:=tree_mem hp f _ _ _ _ _ h4 (show e≤w.length by omega)
        have hm2:=hmemA _ _ _ _ _ h5 hch
        obtain ⟨q2,hq2,hq2e⟩:=mem_pos hm2
        have hc1:0<(SG g w sg av e).length:=List.length_pos_of_mem hm1
        have hc2:0<(prodT (SG g w) (L.drop (u+1)) e es').length:=by omega
        have hle1:cntS g w sg av e≤cntS g w s i j:=by
         have:=Nat.le_mul_of_pos_right (SG g w sg av e).length hc2
         unfold cntS at hB ⊢
         omega
        have hle2:(prodT (SG g w) (L.drop (u+1)) e es').length≤(prodT (SG g w) L i es).length:=by
         have:=Nat.le_mul_of_pos_left (prodT (SG g w) (L.drop (u+1)) e es').length hc1
         omega
        have hrng':(rangesL (i:Int) (ints es)).drop u=((av:Int),(e:Int))::rangesL (e:Int) (ints es'):=hrng
        obtain ⟨hru,hrg,hrd⟩:=at_drop hrng' ((0:Int),(0:Int))
        have hrl:(rangesL (i:Int) (ints es)).length=L.length:=by rw [rangesL_len,List.length_map];exact hesl
        have e1:((u:Int)+1).toNat=u+1:=by omega
        have hR:∀ (K':Int×Kn→Prop),(∀ (p:Nat) kn',KnOk g w kn'→p<cntS g w sg av e→(SG g w sg av e).getD p []=a1→K' ((p:Int),kn'))→VCc61_it g.1 g.2.1 g.2.2.1 g.2.2.2 w f (t.kids.getD u (Tree.node 0 [] [])).rule (t.kids.getD u (Tree.node 0 [] [])).kids (t.kids.getD u (Tree.node 0 [] [])).word ((rangesL (i:Int) (ints es)).getD u ((0:Int),(0:Int))).1 ((rangesL (i:Int) (ints es)).getD u ((0:Int),(0:Int))).2 kn3 K':=by
         intro K' hK'
         rw [et,hrg]
         exact ih sg av e a1 tt kn3 K' h4 (by omega) (hright sg hsgm) (by omega) hk4 hK'
        have hM:∀ (kn:Kn) (K':Int×Kn→Prop),KnOk g w kn→(∀ kn',KnOk g w kn'→K' (((prodT (SG g w) (L.drop (u+1)) e es').length:Int),kn'))→VCcr71 g.1 g.2.1 g.2.2.1 g.2.2.2 w (L.drop ((u:Int)+1).toNat) ((rangesL (i:Int) (ints es)).drop ((u:Int)+1).toNat) kn K':=by
         intro kn K' hk' hK'
         rw [e1,hrd]
         refine many_of hg hw hp (fun s hs=>hright s (List.mem_of_mem_drop hs)) (by rw [List.length_drop];omega) (by rw [List.length_drop,←hesl,←ed,List.length_drop]) hch hk' (fun v' kn' hk'' hv'=>?_)
         have:v'=((prodT (SG g w) (L.drop (u+1)) e es').length:Int):=by unfold CapV at hv';omega
         rw [this]
         exact hK' kn' hk''
        have hdone:∀ (p:Nat) (kn':Kn),KnOk g w kn'→p<cntS g w sg av e→(SG g w sg av e).getD p []=a1→InR ((p:Int)*((prodT (SG g w) (L.drop (u+1)) e es').length:Int))∧InR (((B+d:Nat):Int)+(p:Int)*((prodT (SG g w) (L.drop (u+1)) e es').length:Int))∧VCc61_k5 (u:Int) X (((B+d:Nat):Int)+(p:Int)*((prodT (SG g w) (L.drop (u+1)) e es').length:Int)) kn':=by
         intro p kn' hk' hp1 hp2
         have hstep:∀ q',q'<(prodT (SG g w) (L.drop (u+1)) e es').length→(prodT (SG g w) (L.drop (u+1)) e es').getD q' []=a2→(d+p*(prodT (SG g w) (L.drop (u+1)) e es').length)+q'<(prodT (SG g w) L i es).length∧(prodT (SG g w) L i es).getD ((d+p*(prodT (SG g w) (L.drop (u+1)) e es').length)+q') []=a':=by
          intro q' h6 h7
          have hlt:p*(prodT (SG g w) (L.drop (u+1)) e es').length+q'<(SG g w sg av e).length*(prodT (SG g w) (L.drop (u+1)) e es').length:=by
           have h8:(p+1)*(prodT (SG g w) (L.drop (u+1)) e es').length≤(SG g w sg av e).length*(prodT (SG g w) (L.drop (u+1)) e es').length:=Nat.mul_le_mul_right _ hp1
           rw [Nat.add_mul,Nat.one_mul] at h8
           omega
          have h9:=hq (p*(prodT (SG g w) (L.drop (u+1)) e es').length+q') (by rw [prodT_len];exact hlt) (by
           have h10:=prod_getD (prodT (SG g w) (L.drop (u+1)) e es') (SG g w sg av e) _ hlt
           have h11:(p*(prodT (SG g w) (L.drop (u+1)) e es').length+q') / (prodT (SG g w) (L.drop (u+1)) e es').length=p:=by
            rw [Nat.mul_comm,Nat.mul_add_div hc2,Nat.div_eq_of_lt h6,Nat.add_zero]
           have h12:(p*(prodT (SG g w) (L.drop (u+1)) e es').length+q') % (prodT (SG g w) (L.drop (u+1)) e es').length=q':=by
            rw [Nat.mul_comm,Nat.mul_add_mod,Nat.mod_eq_of_lt h6]
           rw [h11,h12,hp2,h7] at h10
           exact h10)
          rw [←Nat.add_assoc] at h9
          exact h9
         have hb1:=(hstep q2 hq2 hq2e).1
         have ecast:(p:Int)*((prodT (SG g w) (L.drop (u+1)) e es').length:Int)=((p*(prodT (SG g w) (L.drop (u+1)) e es').length:Nat):Int):=by push_cast;rfl
         rw [ecast]
         unfold VCc61_k5
         refine ⟨by unfold InR;omega,by unfold InR;omega,by unfold InR;omega,hX _ ⟨u+1,e,d+p*(prodT (SG g w) (L.drop (u+1)) e es').length,a2,by simp,by omega,by dsimp only;omega,hk',by rw [ed];exact d3,by rw [ed,etd];exact h5,by rw [ed];exact hrd,by rw [ed];exact hle2,by rw [ed];exact hstep⟩ (by dsimp only;omega)⟩
        refine ⟨⟨by omega,by omega⟩,⟨by omega,by omega⟩,by unfold InR;omega,⟨by omega,by omega⟩,by unfold InR;omega,⟨by omega,by omega⟩,?_,?_⟩
        ·exact hR _ fun p kn' hk' hp1 hp2=>hM kn' _ hk' fun kn'' hk''=>hdone p kn'' hk'' hp1 hp2
        ·exact hR _ fun p kn' hk' hp1 hp2=>⟨hM kn' _ hk' fun kn'' hk''=>hdone p kn'' hk'' hp1 hp2,hM kn' _ hk' fun kn'' hk''=>hdone p kn'' hk'' hp1 hp2⟩
       ·simp only [decide_eq_false_iff_not] at hb
        have eu:u=L.length:=by omega
        subst eu
        rw [List.drop_length] at hrow' hq
        obtain ⟨_,hn,_⟩:=hrow'
        subst hn
        obtain ⟨h1,h2⟩:=hq 0 (by simp [prodT]) (by simp [prodT])
        rw [Nat.add_zero] at h1 h2
        unfold VCc61_k4
        have:=hfin d h1
        rw [h2] at this
        exact hK (B+d) kn3 hk4 (by omega) this
     ·-- the body
      intro es2 rest n' kn' hI Kt Kf hKt hKf
      obtain ⟨hk2,pre,h1,h2,en⟩:=hI
      subst en
      have hmemc:es2∈cutsL L.length i j:=by rw [←h1];simp
      have hsc2:=cuts_sc _ i j es2 hij hmemc
      have hesl2:=(cutsL_mem _ _ _ _ hmemc).1
      unfold VCc61_y1
      refine VC60_of (by rw [List.length_map];omega) ⟨fun heq=>?_,fun hne=>?_⟩
      ·simp only [decide_eq_true_eq,ints_inj] at heq
       subst heq
       exact hKf _ _ _ ⟨rfl,hk2,pre,rest,h1.symm,rfl⟩
      ·simp only [decide_eq_false_iff_not,ints_inj] at hne
       refine VC70_of (by rw [List.length_map];omega) ?_
       simp only [Int.toNat_natCast,hL]
       refine many_of hg hw hp hright hshort hesl2 (hsc2.chain hj) hk2 (fun n kn2 hk2' hn=>?_)
       have hB:=(pos_final hp hs hj hkl hleft hL h1.symm).1
       have hn':n=((prodT (SG g w) L i es2).length:Int):=by unfold CapV at hn;omega
       subst hn'
       unfold VCc61_k6
       refine ⟨by unfold InR;omega,hKt _ _ ⟨hk2',pre++[es2],by rw [List.append_assoc];exact h1,?_,?_⟩⟩
       ·rw [List.mem_append]
        rintro (h | h)
        ·exact h2 h
        ·exact hne (List.mem_singleton.1 h).symm
       ·rw [List.flatMap_append,List.length_append,List.flatMap_cons,List.flatMap_nil,List.append_nil]
        push_cast
        omega
end
end Dec
namespace Dec
open Go Go.Proofs Cfg
end Dec
namespace Dec
open Go Go.Proofs Cfg
def LargeG (g:Gr):Prop:=¬(1≤g.1∧g.1≤3)∨¬(1≤g.2.1∧g.2.1≤5)∨10<g.2.2.2.length∨∃ r∈g.2.2.2,4<r.2.length
theorem VC25_two {g:Gr} {K:Int→Prop} (h1:LargeG g→¬GoodG g→K 1) (h2:¬LargeG g→¬GoodG g→K 2) (h:GoodG g→K 0):VC25 g K:=by
 unfold VC25
 refine VC37_of ?_
 refine gcall_both (fun e=>VC37_of ?_) (fun e=>?_)
 ·simp only [Bool.not_not,Bool.and_eq_true,decide_eq_true_eq] at e
  have e1:(decide ((1:Int)≤g.1)&&decide (g.1≤3))=true:=by simp [e.1,e.2]
  rw [e1]
  refine ⟨fun hc=>h1 (by
   simp only [Bool.not_true,Bool.false_or,Bool.or_eq_true,Bool.not_eq_true',Bool.and_eq_false_iff,decide_eq_false_iff_not,decide_eq_true_eq] at hc
   unfold LargeG
   rcases hc with hc | hc
   ·exact .inr (.inl (by omega))
   ·exact .inr (.inr (.inl (by omega)))) fun hg=>?_,fun hc=>?_⟩
  ·simp only [Bool.not_true,Bool.false_or,Bool.or_eq_true,Bool.not_eq_true',Bool.and_eq_false_iff,decide_eq_false_iff_not,decide_eq_true_eq] at hc
   have h1:=hg.n
   have h2:=hg.few
   omega
  ·simp only [Bool.not_true,Bool.false_or,Bool.or_eq_false_iff,Bool.not_eq_false',Bool.and_eq_true,decide_eq_false_iff_not,decide_eq_true_eq] at hc
   obtain ⟨hn,hfew⟩:=hc
   have hfew:g.2.2.2.length≤10:=by omega
   refine VC38_of (fun r=>decide ((4:Int)<(r.2.length:Int))) (by omega) (fun x _ K' hK'=>hK') ⟨fun hs=>h1 (by
    obtain ⟨r,hr,h4⟩:=List.any_eq_true.1 hs
    simp only [decide_eq_true_eq] at h4
    exact .inr (.inr (.inr ⟨r,hr,by omega⟩))) fun hg=>?_,fun hs=>?_⟩
   ·obtain ⟨r,hr,h4⟩:=List.any_eq_true.1 hs
    simp only [decide_eq_true_eq] at h4
    have:=hg.short r hr
    omega
   ·have hshort:∀ r∈g.2.2.2,r.2.length≤4:=by
     intro r hr
     have:=List.any_eq_false.1 hs r hr
     simp only [decide_eq_true_eq] at this
     omega
    have hnl:¬LargeG g:=by
     rintro (h4 | h4 | h4 | ⟨r,hr,h4⟩)
     ·omega
     ·omega
     ·omega
     ·have:=hshort r hr;omega
    refine ⟨⟨by omega,by omega⟩,VC37_of ⟨fun hc=>h2 hnl fun hg=>?_,fun hc=>?_⟩⟩
    ·simp only [Bool.not_eq_true',Bool.and_eq_false_iff,decide_eq_false_iff_not] at hc
     have:=hg.start
     omega
    ·simp only [Bool.not_eq_false',Bool.and_eq_true,decide_eq_true_eq] at hc
     refine loop_count g.2.2.2.length (fun i=>∀ j,j<i→(0≤(g.2.2.2.getD j (0,[])).1∧(g.2.2.2.getD j (0,[])).1<g.2.1)∧∀ s∈(g.2.2.2.getD j (0,[])).2,0≤s∧s<g.1+g.2.1) (by intro j hj;omega) ?_
     intro i hi hP X hX
     unfold VC25_l1 VC25_k1
     refine ⟨fun hb=>?_,fun hb=>?_⟩
     ·simp only [decide_eq_true_eq] at hb
      simp only [Int.toNat_natCast]
      have hmem:g.2.2.2.getD i (0,[])∈g.2.2.2:=getD_mem (by omega)
      refine ⟨⟨by omega,by omega⟩,⟨by omega,by omega⟩,VC37_of ?_⟩
      refine gcall_both (fun e2=>VC40_of e hn (hshort _ hmem) ?_) (fun e2=>?_)
      ·simp only [Bool.not_not] at e2
       rw [e2]
       simp only [Bool.and_eq_true,decide_eq_true_eq] at e2
       refine ⟨fun hc2=>h2 hnl fun hg=>?_,fun hc2=>⟨⟨by omega,by omega⟩,hX (by omega) fun j hj=>?_⟩⟩
       ·simp only [Bool.not_true,Bool.false_or,Bool.not_eq_true'] at hc2
        have:=signs_iff.2 (hg.right _ hmem)
        rw [hc2] at this
        cases this
       ·by_cases e3:j<i
        ·exact hP j e3
        ·have:j=i:=by omega
         subst this
         simp only [Bool.not_true,Bool.false_or,Bool.not_eq_false'] at hc2
         exact ⟨⟨e2.1,by omega⟩,signs_iff.1 hc2⟩
      ·simp only [Bool.not_not] at e2
       rw [e2]
       refine ⟨fun _=>h2 hnl fun hg=>?_,fun hc2=>by simp at hc2⟩
       simp only [Bool.and_eq_false_iff,decide_eq_false_iff_not] at e2
       have:=hg.left _ hmem
       omega
     ·simp only [decide_eq_false_iff_not] at hb
      have hall:∀ r∈g.2.2.2,(0≤r.1∧r.1<g.2.1)∧∀ s∈r.2,0≤s∧s<g.1+g.2.1:=by
       intro r hr
       obtain ⟨j,hj,ej⟩:=List.mem_iff_getElem.1 hr
       have:=hP j (by omega)
       rw [getD_lt _ hj,ej] at this
       exact this
      exact h ⟨e,hn,hfew,hshort,⟨hc.1,by omega⟩,fun r hr=>(hall r hr).1,fun r hr=>(hall r hr).2⟩
 ·simp only [Bool.not_not] at e
  rw [e]
  refine ⟨fun _=>h1 (by
   simp only [Bool.and_eq_false_iff,decide_eq_false_iff_not] at e
   exact .inl (by omega)) fun hg=>?_,fun hc=>by simp at hc⟩
  simp only [Bool.and_eq_false_iff,decide_eq_false_iff_not] at e
  have:=hg.k
  omega
section
variable {g:Gr} {w:List Int}
theorem VC44_all (hg:GoodG g) (hw:GoodW g.1 w) (hp:Prop1 g) {i:Int} {K:List Int×Int→Prop} (hbig:1099511627776<(cntW g w:Int)→K ([],1)) (hout:(cntW g w:Int)≤1099511627776→¬(0≤i∧i<(cntW g w:Int))→K ([],5)) (hin:(cntW g w:Int)≤1099511627776→0≤i→i<(cntW g w:Int)→K ((SG g w (g.1+g.2.2.1) 0 w.length).getD i.toNat [],0)):VC44 g w i K:=by
 unfold VC44
 refine VC66_of (fun e he hng=>absurd ⟨hg,hw⟩ hng) (fun _ _=>⟨fun h0=>(by simp at h0),fun _=>VC55_of hg fun b hb=>?_⟩)
 rw [hb.2 hp]
 refine ⟨fun h=>(by cases h),fun _=>?_⟩
 have hk:=hg.k
 have hn:=hg.n
 have hst:=hg.start
 have hfew:=hg.few
 have hw12:=hw.1
 have hs:¬g.1+g.2.2.1<g.1:=by omega
 refine ⟨by unfold InR;omega,sign_all hg hw hp (s:=g.1+g.2.2.1) (a:=0) (by omega) (by omega) (Nat.le_refl _) knOk_nil fun n kn hk' hn''=>?_⟩
 have hn':CapV n (cntW g w):=hn''
 dsimp only
 refine ⟨fun hc=>?_,fun hc=>⟨fun h0=>(by simp at h0),fun _=>⟨fun ho=>hout ?_ ?_,fun hi=>⟨by unfold InR;omega,?_⟩⟩⟩⟩
 ·simp only [decide_eq_true_eq] at hc
  unfold VC44_k1
  exact ⟨fun _=>hbig (by unfold CapV at hn';omega),fun h0=>(by simp at h0)⟩
 ·simp only [decide_eq_false_iff_not] at hc
  unfold CapV at hn'
  omega
 ·simp only [decide_eq_false_iff_not] at hc
  simp only [Bool.or_eq_true,decide_eq_true_eq] at ho
  unfold CapV at hn'
  omega
 ·simp only [decide_eq_false_iff_not] at hc
  simp only [Bool.or_eq_false_iff,decide_eq_false_iff_not] at hi
  have hcn:n=(cntW g w:Int):=by unfold CapV at hn';omega
  refine ⟨w.length+2,nth_of hg hw hp _ _ 0 w.length i _ _ (by rw [if_neg hs];omega) (by omega) (by omega) (Nat.le_refl _) (by omega) (by omega) (show i.toNat<cntW g w by omega) hk' (fun kn' _=>?_)⟩
  exact hin (by omega) (by omega) (by omega)
theorem VC56_all (hg:GoodG g) (hw:GoodW g.1 w) (hp:Prop1 g) {K:Int×Int→Prop} (hbig:1099511627776<(cntW g w:Int)→K (0,1)) (hin:(cntW g w:Int)≤1099511627776→K ((cntW g w:Int),0)):VC56 g w K:=by
 unfold VC56
 refine VC66_of (fun e he hng=>absurd ⟨hg,hw⟩ hng) (fun _ _=>⟨fun h0=>(by simp at h0),fun _=>VC55_of hg fun b hb=>?_⟩)
 rw [hb.2 hp]
 refine ⟨fun h=>(by cases h),fun _=>?_⟩
 have hk:=hg.k
 have hn:=hg.n
 have hst:=hg.start
 have hfew:=hg.few
 have hw12:=hw.1
 have hs:¬g.1+g.2.2.1<g.1:=by omega
 refine ⟨by unfold InR;omega,sign_all hg hw hp (s:=g.1+g.2.2.1) (a:=0) (by omega) (by omega) (Nat.le_refl _) knOk_nil fun n kn hk' hn''=>?_⟩
 have hn':CapV n (cntW g w):=hn''
 dsimp only
 refine ⟨fun hc=>?_,fun hc=>?_⟩
 ·simp only [decide_eq_true_eq] at hc
  unfold VC56_k1
  exact hbig (by unfold CapV at hn';omega)
 ·simp only [decide_eq_false_iff_not] at hc
  have hcn:n=(cntW g w:Int):=by unfold CapV at hn';omega
  rw [hcn]
  exact hin (by omega)
theorem VC45_all (hg:GoodG g) (hw:GoodW g.1 w) (hp:Prop1 g) {st:List Int} {K:Int×Int→Prop} (hbig:1099511627776<(cntW g w:Int)→K (0,1)) (hlong:(cntW g w:Int)≤1099511627776→60<st.length→K (0,1)) (hno:(cntW g w:Int)≤1099511627776→st.length≤60→¬(∃ t,growF g 62 (g.1+g.2.2.1) st=some (t,[])∧t.word=w)→K (0,5)) (hyes:∀ p:Nat,p<cntW g w→(SG g w (g.1+g.2.2.1) 0 w.length).getD p []=st→(cntW g w:Int)≤1099511627776→st.length≤60→(∃ t,growF g 62 (g.1+g.2.2.1) st=some (t,[])∧t.word=w)→K ((p:Int),0)):VC45 g w st K:=by
 unfold VC45
 refine VC66_of (fun e he hng=>absurd ⟨hg,hw⟩ hng) (fun _ _=>⟨fun h0=>(by simp at h0),fun _=>VC55_of hg fun b hb=>?_⟩)
 rw [hb.2 hp]
 refine ⟨fun h=>(by cases h),fun _=>?_⟩
 have hk:=hg.k
 have hn:=hg.n
 have hst:=hg.start
 have hfew:=hg.few
 have hw12:=hw.1
 have hs:¬g.1+g.2.2.1<g.1:=by omega
 refine ⟨by unfold InR;omega,sign_all hg hw hp (s:=g.1+g.2.2.1) (a:=0) (by omega) (by omega) (Nat.le_refl _) knOk_nil fun n kn hk' hn''=>?_⟩
 have hn':CapV n (cntW g w):=hn''
 dsimp only
 refine ⟨fun hc=>?_,fun hc=>⟨fun h0=>(by simp at h0),fun _=>⟨fun hl=>?_,fun hshort=>⟨by unfold InR;omega,?_⟩⟩⟩⟩
 ·simp only [decide_eq_true_eq] at hc
  unfold VC45_k1
  exact ⟨fun _=>hbig (by unfold CapV at hn';omega),fun h0=>(by simp at h0)⟩
 ·simp only [decide_eq_false_iff_not] at hc
  simp only [decide_eq_true_eq] at hl
  exact hlong (by unfold CapV at hn';omega) (by omega)
 ·simp only [decide_eq_false_iff_not] at hc hshort
  have hcn:n=(cntW g w:Int):=by unfold CapV at hn';omega
  have hle:(cntW g w:Int)≤1099511627776:=by omega
  have h60:st.length≤60:=by omega
  refine VCr59_of hg (by omega) (by omega) (fun hnone=>gcall_both (fun h=>(by cases h)) (fun _=>⟨fun _=>hno hle h60 ?_,fun h=>(by cases h)⟩)) (fun t r hsome ht hr=>?_)
  ·rintro ⟨t,h1,_⟩
   rw [hnone] at h1
   cases h1
  ·have hbad:(r≠[]∨t.word≠w)→¬(∃ t,growF g 62 (g.1+g.2.2.1) st=some (t,[])∧t.word=w):=by
    rintro hor ⟨t',h1,h2⟩
    rw [hsome] at h1
    injection h1 with h1;injection h1 with h3 h4
    subst h3 h4
    rcases hor with h | h
    ·exact h rfl
    ·exact h h2
   cases r with
   | cons x r =>
    have e:decide ((0:Int)<(((x::r).length:Nat):Int))=true:=by simp only [decide_eq_true_eq,List.length_cons];omega
    refine gcall_both (fun h=>?_) (fun _=>⟨fun _=>hno hle h60 (hbad (.inl (by simp))),fun h=>?_⟩)
    ·simp only [e] at h;cases h
    ·simp only [e] at h;cases h
   | nil =>
    refine gcall_both (fun _=>VC60_of (by show t.word.length≤1000;omega) ⟨fun hne=>hno hle h60 (hbad (.inr ?_)),fun heq=>?_⟩) (fun h=>(by cases h))
    ·intro e
     simp [e] at hne
    ·have hww:t.word=w:=by
      by_cases e:t.word=w
      ·exact e
      ·simp [e] at heq
     obtain ⟨a,e,htree,_⟩:=gro_tree (w:=w) hp 62 _ st t [] 0 hsome (by rw [hww];exact At.whole)
     rw [List.append_nil] at e
     subst e
     rw [hww,Nat.zero_add] at htree
     exact ⟨62,place_of hg hw hp 62 (g.1+g.2.2.1) 0 w.length st t _ _ htree (Nat.le_refl _) (by omega) (by show (cntW g w:Int)≤_;omega) hk' (fun p kn' _ h1 h2=>hyes p h1 h2 hle h60 ⟨t,hsome,hww⟩)⟩
theorem sg_inj {p q:Nat} (hp:p<(SG g w (g.1+g.2.2.1) 0 w.length).length) (hq:q<(SG g w (g.1+g.2.2.1) 0 w.length).length) (h:(SG g w (g.1+g.2.2.1) 0 w.length).getD p []=(SG g w (g.1+g.2.2.1) 0 w.length).getD q []):p=q:=by
 have hr:=List.pairwise_iff_getElem.1 (sgn_rise (K:=g.1) (R:=g.2.2.2) (w:=w) (w.length+1) (g.1+g.2.2.1) 0 w.length)
 rw [getD_lt _ hp,getD_lt _ hq] at h
 rcases Nat.lt_trichotomy p q with hlt | he | hlt
 ·exact absurd h (hr p q hp hq hlt).1
 ·exact he
 ·exact absurd h.symm (hr q p hq hp hlt).1
end
/-! ### one answer -/
theorem VC25_ex (g:Gr):∃ e:Int,(e=0↔GoodG g)∧∀ K:Int→Prop,K e→VC25 g K:=by
 by_cases hg:GoodG g
 ·exact ⟨0,⟨fun _=>hg,fun _=>rfl⟩,fun K hK=>VC25_two (fun _ h=>absurd hg h) (fun _ h=>absurd hg h) fun _=>hK⟩
 ·by_cases hl:LargeG g
  ·exact ⟨1,⟨fun h=>(by cases h),fun h=>absurd h hg⟩,fun K hK=>VC25_two (fun _ _=>hK) (fun h _=>absurd hl h) fun h=>absurd h hg⟩
  ·exact ⟨2,⟨fun h=>(by cases h),fun h=>absurd h hg⟩,fun K hK=>VC25_two (fun h _=>absurd h hl) (fun _ _=>hK) fun h=>absurd h hg⟩
theorem VC21_ex {k:Int} (hk:1≤k∧k≤3) (w:List Int):∃ e:Int,(e=0↔GoodW k w)∧∀ K:Int→Prop,K e→VC21 k w K:=by
 by_cases hw:GoodW k w
 ·exact ⟨0,⟨fun _=>hw,fun _=>rfl⟩,fun K hK=>VC21_of hk (fun e _ h=>absurd hw h) fun _=>hK⟩
 ·by_cases hl:12<w.length
  ·refine ⟨1,⟨fun h=>(by cases h),fun h=>absurd h hw⟩,fun K hK=>?_⟩
   unfold VC21
   exact ⟨fun _=>hK,fun h=>(by simp only [decide_eq_false_iff_not] at h;omega)⟩
  ·refine ⟨2,⟨fun h=>(by cases h),fun h=>absurd h hw⟩,fun K hK=>?_⟩
   unfold VC21
   refine ⟨fun h=>(by simp only [decide_eq_true_eq] at h;omega),fun _=>?_⟩
   refine VC35_of (fun s=>!(decide (0≤s)&&decide (s≤k-1))) (by omega) (fun x _ K' hK'=>⟨⟨by omega,by omega⟩,hK'⟩) ⟨fun _=>hK,fun hs=>?_⟩
   refine absurd ⟨by omega,fun s hm=>?_⟩ hw
   have:=List.any_eq_false.1 hs s hm
   simp only [Bool.not_eq_true',Bool.not_eq_false,Bool.and_eq_true,decide_eq_true_eq] at this
   omega
theorem VC66_ex {g:Gr} (hg:GoodG g) (w:List Int):∃ e:Int,(e=0↔GoodW g.1 w)∧∀ K:Int→Prop,K e→VC66 g w K:=by
 obtain ⟨e,h1,h2⟩:=VC21_ex hg.k w
 refine ⟨e,h1,fun K hK=>?_⟩
 unfold VC66
 exact VC25_of (fun _ _ h=>absurd hg h) fun _=>⟨fun h=>(by simp at h),fun _=>h2 _ hK⟩
theorem VC45_ex {g:Gr} (hg:GoodG g) (hp:Prop1 g) (w st:List Int):∃ r:Int×Int,∀ K:Int×Int→Prop,K r→VC45 g w st K:=by
 obtain ⟨e,h1,h2⟩:=VC66_ex hg w
 by_cases hw:GoodW g.1 w
 ·by_cases hb:1099511627776<(cntW g w:Int)
  ·exact ⟨(0,1),fun K hK=>VC45_all hg hw hp (fun _=>hK) (fun h=>absurd hb (by omega)) (fun h=>absurd hb (by omega)) (fun _ _ _ h=>absurd hb (by omega))⟩
  ·by_cases hl:st.length≤60
   ·by_cases ht:∃ t,growF g 62 (g.1+g.2.2.1) st=some (t,[])∧t.word=w
    ·by_cases hq:∃ p:Nat,p<cntW g w∧(SG g w (g.1+g.2.2.1) 0 w.length).getD p []=st
     ·obtain ⟨p,hp1,hp2⟩:=hq
      refine ⟨((p:Int),0),fun K hK=>VC45_all hg hw hp (fun h=>absurd h hb) (fun _ h=>absurd hl (by omega)) (fun _ _ h=>absurd ht h) (fun q hq1 hq2 _ _ _=>?_)⟩
      have:q=p:=sg_inj hq1 hp1 (by rw [hq2,hp2])
      rw [this]
      exact hK
     ·exact ⟨(0,0),fun K hK=>VC45_all hg hw hp (fun h=>absurd h hb) (fun _ h=>absurd hl (by omega)) (fun _ _ h=>absurd ht h) (fun q hq1 hq2 _ _ _=>absurd ⟨q,hq1,hq2⟩ hq)⟩
    ·exact ⟨(0,5),fun K hK=>VC45_all hg hw hp (fun h=>absurd h hb) (fun _ h=>absurd hl (by omega)) (fun _ _ _=>hK) (fun _ _ _ _ _ h=>absurd h ht)⟩
   ·exact ⟨(0,1),fun K hK=>VC45_all hg hw hp (fun h=>absurd h hb) (fun _ _=>hK) (fun _ h=>absurd h hl) (fun _ _ _ _ h=>absurd h hl)⟩
 ·refine ⟨(0,e),fun K hK=>?_⟩
  have he:e≠0:=fun h=>hw (h1.1 h)
  unfold VC45
  refine h2 _ ⟨fun _=>?_,fun h=>?_⟩
  ·unfold VC45_k1
   exact ⟨fun _=>hK,fun h=>(by simp at h;exact absurd h he)⟩
  ·simp at h
   exact absurd h he
end Dec
