/-
The minimal machine of a sentence: the plain contract of after.Sure. An expression of the words of a machine: the plain contract of solve.Sentence (Kleene).
-/
import Derived.Test.YtckghdhnmpnljaaRefi
import Derived.Test.YtckghdhnmpnljaaCanon
import Derived.Test.YtckghdhnmpnljaaGlyE
set_option linter.unusedSimpArgs false
set_option linter.unusedVariables false
namespace Dec
open Go Go.Proofs Rex Gly
theorem idx_any2 (f:Int→Bool) (l:List Int):(idxOf f l<0∧∀ j,j<l.length→f (l.getD j 0)=false)∨∃ n:Nat,idxOf f l=(n:Int)∧n<l.length∧f (l.getD n 0)=true:=by
 unfold idxOf
 cases h:l.findIdx? f with
 | none =>
  refine .inl ⟨by simp,fun j hj=>?_⟩
  rw [List.findIdx?_eq_none_iff] at h
  exact h _ (getD_mem hj)
 | some n =>
  rw [List.findIdx?_eq_some_iff_getElem] at h
  obtain ⟨h1,h2,_⟩:=h
  exact .inr ⟨n,rfl,h1,by rw [getD_lt _ h1];exact h2⟩
theorem VC55_of {s:List Int} {F:Int→(Bool→Prop)→Prop} {K:Int→Prop} (f:Int→Bool) (hl:s.length≤4611686018427387904) (hF:∀ x∈s,∀ K':Bool→Prop,K' (f x)→F x K') (h:K (idxOf f s)):VC55 s F K :=
 VCidx_of (d:=(0:Int)) f hl hF h
structure FndC (n:Nat) (cl:LI) (fd:LI):Prop where
 pos:1≤fd.length∧fd.getD 0 0=0
 st:∀ p,p<fd.length→∃ x:Nat,x<n∧fd.getD p 0=(x:Int)
 dist:∀ p q,p<q→q<fd.length→cl.getD (fd.getD p 0).toNat 0≠cl.getD (fd.getD q 0).toNat 0
theorem FndC.few {n m:Nat} {cl fd:LI} (h:FndC n cl fd) (hc:Cls n cl m):fd.length≤m:=by
 have val:∀ p,p<fd.length→∃ v,v<m∧cl.getD (fd.getD p 0).toNat 0=(v:Int):=fun p hp=>by
  obtain ⟨x,h1,h2⟩:=h.st p hp
  rw [h2,Int.toNat_natCast]
  exact hc.val x h1
 refine pigeon m fd.length (fun p=>(cl.getD (fd.getD p 0).toNat 0).toNat) (fun p hp=>?_) (fun p q hpq hq e=>?_)
 ·obtain ⟨v,h1,h2⟩:=val p hp
  show (cl.getD (fd.getD p 0).toNat 0).toNat<m
  omega
 ·obtain ⟨v,h1,h2⟩:=val p (by omega)
  obtain ⟨u,h3,h4⟩:=val q hq
  have e':(cl.getD (fd.getD p 0).toNat 0).toNat=(cl.getD (fd.getD q 0).toNat 0).toNat:=e
  exact h.dist p q hpq hq (by omega)
def RowC (L:LM) (cl fd:LI) (x:Nat) (row:LI) (s:Nat):Prop:=∀ u,u<s→∃ p,p<fd.length∧row.getD u 0=(p:Int)∧cl.getD (fd.getD p 0).toNat 0=cl.getD (nxL L x (u:Int)) 0
theorem RowC.more {L:LM} {cl fd e:LI} {x:Nat} {row:LI} {s:Nat} (h:RowC L cl fd x row s):RowC L cl (fd++e) x row s:=fun u hu=>by
 obtain ⟨p,h1,h2,h3⟩:=h u hu
 exact ⟨p,by rw [List.length_append];omega,h2,by rw [getD_app h1];exact h3⟩
theorem FndC.more {n:Nat} {cl fd:LI} (h:FndC n cl fd) {x:Nat} (hx:x<n) (hno:∀ p,p<fd.length→cl.getD (fd.getD p 0).toNat 0≠cl.getD x 0):FndC n cl (fd++[(x:Int)]):=by
 refine ⟨⟨by simp,by rw [getD_app h.pos.1];exact h.pos.2⟩,fun p hp=>?_,fun p q hpq hq=>?_⟩
 ·rw [List.length_append,List.length_singleton] at hp
  by_cases h1:p<fd.length
  ·rw [getD_app h1];exact h.st p h1
  ·have:p=fd.length:=by omega
   subst this
   exact ⟨x,hx,getD_last⟩
 ·rw [List.length_append,List.length_singleton] at hq
  rw [getD_app (by omega)]
  by_cases h1:q<fd.length
  ·rw [getD_app h1];exact h.dist p q hpq h1
  ·have:q=fd.length:=by omega
   subst this
   rw [getD_last,Int.toNat_natCast]
   exact hno p (by omega)
structure SurI (k:Int) (L:LM) (cl:LI) (i:Nat) (out:Int) (fd:LI) (nx:LL):Prop where
 fnd:FndC L.2.length cl fd
 le:i≤fd.length
 len:nx.length=i
 row:∀ j,j<i→(nx.getD j []).length=k.toNat∧RowC L cl fd (fd.getD j 0).toNat (nx.getD j []) k.toNat
 u32:U32 out
 bit:∀ j,bt out j=(decide (j<i)&&decide (fnL L (fd.getD j 0).toNat=1))
 can:FRows nx fd.length
structure SureOk (k:Int) (l:List Nd) (M:Mach):Prop where
 good:GoodM M
 u32:U32 M.2.2.2.2
 sym:M.2.1=k
 start:M.2.2.2.1=0
 own:leastF M=M
 lang:∀ w,SymW k w→(accM M 0 w=true↔Mat l w (l.length-1) 0 w.length)
theorem sure_end {k:Int} {l:List Nd} {L:LM} {cl:LI} {m:Nat} {out:Int} {fd:LI} {nx:LL} (hk:1≤k∧k≤3) (hL:Dfa k L) (hlang:∀ w,SyW k w→(fnL L (runL L 0 w)=1↔Mat l w (l.length-1) 0 w.length))
  (hc:Cls L.2.length cl m) (heq:∀ i j,i<L.2.length→j<L.2.length→(cl.getD i 0=cl.getD j 0↔EqL k L i j)) (hm:m≤7) (h:SurI k L cl fd.length out fd nx):SureOk k l ((m:Int),(k,(nx,((0:Int),out)))):=by
 have hpos:=h.fnd.pos
 have hfew:=h.fnd.few hc
 have hn:=hL.few
 have hnl:=h.len
 have all:∀ w,SyW k w→∃ p,p<fd.length∧cl.getD (fd.getD p 0).toNat 0=cl.getD (runL L 0 w) 0:=by
  intro w
  refine snoc_ind (P:=fun w=>SyW k w→∃ p,p<fd.length∧cl.getD (fd.getD p 0).toNat 0=cl.getD (runL L 0 w) 0) ?_ ?_ _ w rfl
  ·exact fun _=>⟨0,by omega,by rw [hpos.2];rfl⟩
  ·intro w c ih hw
   obtain ⟨p,p1,p2⟩:=ih fun x hx=>hw x (List.mem_append_left _ hx)
   have hcc:=hw c (by simp)
   obtain ⟨x,x1,x2⟩:=h.fnd.st p p1
   obtain ⟨q,q1,_,q2⟩:=(h.row p p1).2 c.toNat (by omega)
   refine ⟨q,q1,?_⟩
   rw [q2,show ((c.toNat:Nat):Int)=c by omega,runL_app]
   rw [x2,Int.toNat_natCast] at p2 ⊢
   have hrun:=hL.run (w:=w) (i:=0) (by omega) fun x hx=>hw x (List.mem_append_left _ hx)
   have he:=(heq x _ x1 hrun).1 p2
   exact (heq _ _ (hL.nx x1 hcc).1 (hL.nx hrun hcc).1).2 (he.next hcc)
 have hmf:m≤fd.length:=by
  have pick:∀ v,∃ p,v<m→(p<fd.length∧cl.getD (fd.getD p 0).toNat 0=(v:Int)):=fun v=>by
   by_cases hv:v<m
   ·obtain ⟨i,i1,i2⟩:=hc.all v hv
    obtain ⟨w,w1,w2⟩:=hL.reach i i1
    obtain ⟨p,p1,p2⟩:=all w w1
    exact ⟨p,fun _=>⟨p1,by rw [p2,w2];exact i2⟩⟩
   ·exact ⟨0,fun h=>absurd h hv⟩
  refine pigeon fd.length m (fun v=>(pick v).choose) (fun v hv=>((pick v).choose_spec hv).1) (fun u v huv hv e=>?_)
  have h1:=((pick u).choose_spec (by omega)).2
  have h2:=((pick v).choose_spec hv).2
  rw [e,h2] at h1
  omega
 have hme:m=fd.length:=by omega
 subst hme
 have hg:GoodM (((fd.length:Nat):Int),(k,(nx,((0:Int),out)))):=by
  refine ⟨⟨by simp only;omega,by simp only;omega,hk.1,hk.2⟩,⟨by simp only;omega,fun r hr=>?_⟩,fun r hr x hx=>?_,⟨by simp only;omega,by simp only;omega⟩,?_⟩
  ·obtain ⟨j,hj,rfl⟩:=List.mem_iff_getElem.1 hr
   have hj':j<nx.length:=hj
   rw [←getD_lt ([]:List Int) hj]
   have:=(h.row j (by omega)).1
   simp only
   omega
  ·obtain ⟨j,hj,rfl⟩:=List.mem_iff_getElem.1 hr
   have hj':j<nx.length:=hj
   have hx:x∈nx[j]:=hx
   rw [←getD_lt ([]:List Int) hj'] at hx
   obtain ⟨u,hu,rfl⟩:=List.mem_iff_getElem.1 hx
   rw [←getD_lt (0:Int) hu]
   obtain ⟨r1,r2⟩:=h.row j (by omega)
   obtain ⟨p,p1,p2,_⟩:=r2 u (by omega)
   simp only
   omega
  ·show out<((2 ^ ((fd.length:Nat):Int).toNat:Nat):Int)
   rw [Int.toNat_natCast]
   refine (below_bt h.u32).2 fun i hi=>?_
   rw [h.bit]
   simp;omega
 have step:∀ (p:Nat) (c:Int),p<fd.length→0≤c∧c<k→∃ q:Nat,q<fd.length∧nextM (((fd.length:Nat):Int),(k,(nx,((0:Int),out)))) (p:Int) c=(q:Int)∧EqL k L (fd.getD q 0).toNat (nxL L (fd.getD p 0).toNat c):=by
  intro p c hp hcc
  obtain ⟨q,q1,q2,q3⟩:=(h.row p hp).2 c.toNat (by omega)
  obtain ⟨x,x1,x2⟩:=h.fnd.st p hp
  obtain ⟨y,y1,y2⟩:=h.fnd.st q q1
  refine ⟨q,q1,?_,?_⟩
  ·unfold nextM
   simp only [Int.toNat_natCast]
   exact q2
  ·rw [show ((c.toNat:Nat):Int)=c by omega] at q3
   rw [x2,Int.toNat_natCast] at q3 ⊢
   rw [y2,Int.toNat_natCast] at q3 ⊢
   exact (heq _ _ y1 (hL.nx x1 hcc).1).1 q3
 have acc:∀ (w:List Int) (p:Nat),p<fd.length→SymW k w→(accM (((fd.length:Nat):Int),(k,(nx,((0:Int),out)))) (p:Int) w=true↔fnL L (runL L (fd.getD p 0).toNat w)=1):=by
  intro w
  induction w with
  | nil =>
   intro p hp _
   unfold accM runM
   show bt out ((p:Int)).toNat=true↔fnL L (fd.getD p 0).toNat=1
   rw [Int.toNat_natCast,h.bit]
   simp [hp,-List.getD_eq_getElem?_getD]
  | cons c w ih =>
   intro p hp hw
   have hcc:=hw c List.mem_cons_self
   have hw':SymW k w:=fun x hx=>hw x (List.mem_cons_of_mem _ hx)
   obtain ⟨q,q1,q2,q3⟩:=step p c hp hcc
   have e:accM (((fd.length:Nat):Int),(k,(nx,((0:Int),out)))) (p:Int) (c::w)=accM (((fd.length:Nat):Int),(k,(nx,((0:Int),out)))) (q:Int) w:=by
    unfold accM runM
    rw [List.foldl_cons,q2]
   rw [e,ih q q1 hw',runL_cons,q3 w hw']
 have hap:Apart (((fd.length:Nat):Int),(k,(nx,((0:Int),out)))):=by
  intro i j hi hj he
  have hi':i<fd.length:=by simp only at hi;omega
  have hj':j<fd.length:=by simp only at hj;omega
  obtain ⟨x,x1,x2⟩:=h.fnd.st i hi'
  obtain ⟨y,y1,y2⟩:=h.fnd.st j hj'
  have hE:EqL k L x y:=by
   intro w hw
   have e1:=he w hw
   have a1:=acc w i hi' hw
   have a2:=acc w j hj' hw
   rw [e1,a2,x2,y2,Int.toNat_natCast,Int.toNat_natCast] at a1
   have f1:=hL.fin _ (hL.run x1 hw)
   have f2:=hL.fin _ (hL.run y1 hw)
   unfold fnL at a1 ⊢
   omega
  have hcl:=(heq x y x1 y1).2 hE
  rcases Nat.lt_trichotomy i j with hij | hij | hij
  ·exact absurd (by rw [x2,y2];simpa using hcl) (h.fnd.dist i j hij hj')
  ·exact hij
  ·exact absurd (by rw [x2,y2];simpa using hcl.symm) (h.fnd.dist j i hij hi')
 refine ⟨hg,h.u32,rfl,rfl,canon_least hg h.u32 hap rfl ?_,fun w hw=>?_⟩
 ·simp only [Int.toNat_natCast]
  exact h.can
 ·have:=acc w 0 (by omega) hw
  rw [hpos.2] at this
  exact this.trans (hlang w hw)
theorem sure_big {k:Int} {l:List Nd} {L:LM} {cl:LI} {m:Nat} (hL:Dfa k L) (hlang:∀ w,SyW k w→(fnL L (runL L 0 w)=1↔Mat l w (l.length-1) 0 w.length))
  (hc:Cls L.2.length cl m) (heq:∀ i j,i<L.2.length→j<L.2.length→(cl.getD i 0=cl.getD j 0↔EqL k L i j)) (hm:7<m) {M:Mach} (g:GoodM M) (hk:M.2.1=k) (hM:∀ w,SymW k w→(accM M M.2.2.2.1 w=true↔Mat l w (l.length-1) 0 w.length)):False:=by
 have hn:=hL.few
 have gd:=g.2.2.2.1
 unfold mD at gd
 have gA:=g.1
 unfold mA at gA
 have pick:∀ v,∃ w,v<m→(SyW k w∧cl.getD (runL L 0 w) 0=(v:Int)):=fun v=>by
  by_cases hv:v<m
  ·obtain ⟨i,i1,i2⟩:=hc.all v hv
   obtain ⟨w,w1,w2⟩:=hL.reach i i1
   exact ⟨w,fun _=>⟨w1,by rw [w2];exact i2⟩⟩
  ·exact ⟨[],fun h=>absurd h hv⟩
 obtain ⟨wd,hwd⟩:∃ wd:Nat→List Int,∀ v,v<m→(SyW k (wd v)∧cl.getD (runL L 0 (wd v)) 0=(v:Int)):=⟨fun v=>(pick v).choose,fun v=>(pick v).choose_spec⟩
 have run:∀ v,v<m→0≤runM M M.2.2.2.1 (wd v)∧runM M M.2.2.2.1 (wd v)<M.1:=fun v hv=>run_good g gd fun x hx=>by rw [hk];exact (hwd v hv).1 x hx
 have:=pigeon M.1.toNat m (fun v=>(runM M M.2.2.2.1 (wd v)).toNat) (fun v hv=>by have:=run v hv;show (runM M M.2.2.2.1 (wd v)).toNat<_;omega) (fun u v huv hv e=>by
  have ru:=run u (by omega)
  have rv:=run v hv
  have e':(runM M M.2.2.2.1 (wd u)).toNat=(runM M M.2.2.2.1 (wd v)).toNat:=e
  have er:runM M M.2.2.2.1 (wd u)=runM M M.2.2.2.1 (wd v):=by omega
  obtain ⟨su,cu⟩:=hwd u (by omega)
  obtain ⟨sv,cv⟩:=hwd v hv
  have hE:EqL k L (runL L 0 (wd u)) (runL L 0 (wd v)):=by
   intro z hz
   have app:∀ y,SyW k y→SyW k (y++z):=fun y hy x hx=>by
    rcases List.mem_append.1 hx with hx | hx
    ·exact hy x hx
    ·exact hz x hx
   have h1:=hlang _ (app _ su)
   have h2:=hlang _ (app _ sv)
   have h3:=hM _ (app _ su)
   have h4:=hM _ (app _ sv)
   have ea:accM M M.2.2.2.1 (wd u++z)=accM M M.2.2.2.1 (wd v++z):=by
    unfold accM
    rw [runM_append,runM_append,er]
   rw [←h3,ea,h4,←h2,runL_app,runL_app] at h1
   have f1:=hL.fin _ (hL.run (hL.run (w:=wd u) (i:=0) (by omega) su) hz)
   have f2:=hL.fin _ (hL.run (hL.run (w:=wd v) (i:=0) (by omega) sv) hz)
   unfold fnL at h1 ⊢
   omega
  have:=(heq _ _ (hL.run (w:=wd u) (i:=0) (by omega) su) (hL.run (w:=wd v) (i:=0) (by omega) sv)).2 hE
  omega)
 omega
theorem VC28_of {k:Int} {l:List Nd} {K:Mach×Int→Prop} (hbad:∀ e,e≠0→¬Good k l→K (((0:Int),((0:Int),(([]:LL),((0:Int),(0:Int))))),e))
  (hbig:Good k l→(∀ M:Mach,GoodM M→M.2.1=k→¬∀ w,SymW k w→(accM M M.2.2.2.1 w=true↔Mat l w (l.length-1) 0 w.length))→K (((0:Int),((0:Int),(([]:LL),((0:Int),(0:Int))))),1))
  (h:Good k l→∀ M,SureOk k l M→K (M,0)):VC28 k l K:=by
 unfold VC28
 refine VC45_of (fun e he hno=>⟨fun _=>hbad e he hno,fun hc=>absurd (by simpa using hc) he⟩) (fun hg=>⟨fun hc=>by simp at hc,fun _=>?_⟩)
 have hk:=hg.sym
 refine VC52_of hg fun A sets L hA hLr=>?_
 obtain ⟨hL,hlang⟩:=lrg_dfa hk.1 hA hLr
 refine VC53_of hk hL fun cl m hc heq=>?_
 have hn:=hL.few
 have hml:=hc.le
 refine ⟨fun hb=>?_,fun hb=>?_⟩
 ·simp only [decide_eq_true_eq] at hb
  exact hbig hg fun M g hMk hM=>sure_big hL hlang hc heq (by omega) g hMk hM
 ·simp only [decide_eq_false_iff_not] at hb
  have hm7:m≤7:=by omega
  refine Loop.by (fun x:Int×Int×LI×LL=>∃ i:Nat,x.1=(i:Int)∧SurI k L cl i x.2.1 x.2.2.1 x.2.2.2) (fun x=>(8-x.1).toNat) ⟨0,rfl,⟨⟨by simp,rfl⟩,fun p hp=>?_,fun p q hpq hq=>?_⟩,by simp,rfl,fun j hj=>by omega,u32_zero,fun j=>?_,.nil⟩ ?_
  ·have:p=0:=by simp only [List.length_singleton] at hp;omega
   subst this
   exact ⟨0,by omega,rfl⟩
  ·simp only [List.length_singleton] at hq
   omega
  ·simp [bt_zero]
  rintro ⟨c,out,fd,nx⟩ ⟨i,rfl,hI⟩ X hX
  simp only at hI ⊢
  have hfew:=hI.fnd.few hc
  have hile:=hI.le
  unfold VC28_l1
  refine ⟨fun hb2=>?_,fun hb2=>?_⟩
  ·simp only [decide_eq_true_eq] at hb2
   have hil:i<fd.length:=by omega
   obtain ⟨x,x1,x2⟩:=hI.fnd.st i hil
   refine ⟨⟨by omega,by omega⟩,?_⟩
   refine loopI k.toNat (fun s (y:LI×LI)=>FndC L.2.length cl y.1∧(∃ e,y.1=fd++e)∧y.2.length=k.toNat∧RowC L cl y.1 x y.2 s∧FRow fd.length (y.2.take s) y.1.length) ⟨hI.fnd,⟨[],by simp⟩,by simp,fun u hu=>by omega,by simp [FRow]⟩ ?_
   rintro s hs ⟨fd2,row⟩ ⟨hF,⟨e,he⟩,hrl,hrc,hfr⟩ Y hY
   simp only at hF he hrl hrc hfr ⊢
   have hfew2:=hF.few hc
   have hle2:fd.length≤fd2.length:=by rw [he,List.length_append];omega
   have hgi:fd2.getD i 0=(x:Int):=by rw [he,getD_app hil];exact x2
   unfold VC28_l2
   simp only [List.length_replicate,Int.toNat_natCast]
   refine ⟨fun hb3=>?_,fun hb3=>?_⟩
   ·simp only [decide_eq_true_eq] at hb3
    have hsk:s<k.toNat:=by omega
    have hcc:0≤(s:Int)∧(s:Int)<k:=by omega
    have hnx:=hL.nx x1 hcc
    rw [Int.toNat_natCast] at hnx
    have hrow:=hL.row x x1
    have hll:=hL.len
    rw [hgi,Int.toNat_natCast,hnx.2]
    have hcll:=hc.len
    have blk:∀ C:Int→LI→Prop,(∀ (n:Int) (l16:LI),VC28_k5 (s:Int) row Y n l16→C n l16)→VC55 fd2 (fun (x_1:Int) (K:Bool→Prop)=>VC56 x_1 cl (nxL L x (s:Int):Int) K) (fun (ret8v:Int)=>(((decide (ret8v<(0:Int)))=true→(roomN (fd2.length+[(nxL L x (s:Int):Int)].length)∧C (fd2.length:Int) (fd2++[(nxL L x (s:Int):Int)])))∧((decide (ret8v<(0:Int)))=false→C ret8v fd2))):=by
     intro C hC
     refine VC55_of (fun y=>decide (cl.getD y.toNat 0=cl.getD (nxL L x (s:Int)) 0)) (by omega) (fun y hy K' hK'=>?_) ?_
     ·obtain ⟨p,hp,rfl⟩:=List.mem_iff_getElem.1 hy
      rw [←getD_lt (0:Int) hp] at hK' ⊢
      obtain ⟨z,z1,z2⟩:=hF.st p hp
      unfold VC56
      refine ⟨⟨by omega,by omega⟩,⟨by omega,by omega⟩,?_⟩
      simp only [Int.toNat_natCast]
      exact hK'
     ·have fin:∀ (n:Nat) (f3:LI),FndC L.2.length cl f3→(∃ e,f3=fd++e)→fd2.length≤f3.length→RowC L cl f3 x row s→n<f3.length→cl.getD (f3.getD n 0).toNat 0=cl.getD (nxL L x (s:Int)) 0→((n<fd2.length∧f3.length=fd2.length)∨(n=fd2.length∧f3.length=fd2.length+1))→C (n:Int) f3:=by
       intro n f3 hF3 he3 hle3 hr3 hn3 hcl3 hcase
       refine hC _ _ ?_
       unfold VC28_k5 VC28_k4
       simp only [Int.toNat_natCast]
       refine ⟨⟨by omega,by omega⟩,⟨by omega,by omega⟩,hY _ hsk ⟨hF3,he3,by simp only [List.length_set];exact hrl,fun u hu=>?_,?_⟩⟩
       ·simp only
        rw [set_snoc (by omega)]
        by_cases hus:s=u
        ·subst hus
         rw [if_pos rfl]
         exact ⟨n,hn3,rfl,hcl3⟩
        ·rw [if_neg hus]
         exact hr3 u (by omega)
       ·simp only
        have et:(row.set s (n:Int)).take (s+1)=row.take s++[(n:Int)]:=by
         rw [List.take_succ_eq_append_getElem (by rw [List.length_set];omega),List.getElem_set_self,List.take_set_of_le (Nat.le_refl _)]
        rw [et]
        exact hfr.snoc (by omega)
      rcases idx_any2 (fun y=>decide (cl.getD y.toNat 0=cl.getD (nxL L x (s:Int)) 0)) fd2 with ⟨h1,h2⟩ | ⟨n,h1,h2,h3⟩
      ·refine ⟨fun _=>⟨by unfold roomN;simp only [List.length_singleton];omega,?_⟩,fun hf=>by simp only [decide_eq_false_iff_not] at hf;omega⟩
       refine fin fd2.length _ (hF.more hnx.1 fun p hp hce=>?_) ⟨e++[(nxL L x (s:Int):Int)],by rw [he,List.append_assoc]⟩ (by rw [List.length_append];omega) hrc.more (by simp) (by rw [getD_last,Int.toNat_natCast]) (.inr ⟨rfl,by simp⟩)
       have:=h2 p hp
       simp only [decide_eq_false_iff_not] at this
       exact this hce
      ·simp only [decide_eq_true_eq] at h3
       refine ⟨fun ht=>by simp only [decide_eq_true_eq] at ht;omega,fun _=>?_⟩
       rw [h1]
       exact fin n fd2 hF ⟨e,he⟩ (Nat.le_refl _) hrc h2 h3 (.inl ⟨h2,rfl⟩)
    have i1:inIdx (i:Int) fd2.length:=⟨by omega,by omega⟩
    have i2:inIdx (x:Int) L.1.length:=⟨by omega,by omega⟩
    have i3:inIdx (s:Int) (L.1.getD x []).length:=⟨by omega,by omega⟩
    exact ⟨⟨i1,i2,i3,blk _ fun n l16 hh=>hh⟩,i1,⟨i2,i3,blk _ fun n l16 hh=>hh⟩,i2,i3,blk _ fun n l16 hh=>hh⟩
   ·simp only [decide_eq_false_iff_not] at hb3
    have hsk:s=k.toNat:=by omega
    subst hsk
    have hnl:=hI.len
    have hll:=hL.len
    unfold VC28_k2
    simp only [Int.toNat_natCast]
    simp only [hgi,Int.toNat_natCast]
    rw [List.take_of_length_le (by omega)] at hfr
    have fin:∀ out2:Int,U32 out2→(∀ j,bt out2 j=(bt out j||(decide (i=j)&&decide (fnL L x=1))))→VC28_k3 (i:Int) nx X fd2 row out2:=by
     intro out2 hu2 hb2'
     unfold VC28_k3
     refine ⟨⟨by omega,by omega⟩,hX _ ⟨i+1,by simp,hF,by simp only;omega,by simp [hnl],fun j hj=>?_,hu2,fun j=>?_,?_⟩ (by simp only;omega)⟩
     ·simp only
      by_cases hji:j<i
      ·rw [getD_app (by omega),he,getD_app (by omega)]
       obtain ⟨r1,r2⟩:=hI.row j hji
       exact ⟨r1,r2.more⟩
      ·have:j=nx.length:=by omega
       subst this
       rw [getD_last,hnl,hgi,Int.toNat_natCast]
       exact ⟨hrl,hrc⟩
     ·simp only
      rw [hb2',hI.bit]
      by_cases hji:j<i
      ·rw [he,getD_app (by omega)]
       have h1:¬i=j:=by omega
       simp [hji,h1,show j<i+1 by omega,-List.getD_eq_getElem?_getD]
      ·by_cases hij:i=j
       ·subst hij
        rw [hgi,Int.toNat_natCast]
        simp
       ·simp [hji,hij,show ¬j<i+1 by omega]
     ·exact .snoc nx row fd.length fd2.length hI.can (by omega) hfr
    refine ⟨by unfold roomN;simp only [List.length_singleton];omega,⟨by omega,by omega⟩,⟨by omega,by omega⟩,fun ht=>⟨by omega,fin _ (u32_or hI.u32 (u32_shl1 _)) fun j=>?_⟩,fun hf=>fin _ hI.u32 fun j=>?_⟩
    ·simp only [decide_eq_true_eq] at ht
     have hfx:fnL L x=1:=ht
     rw [bt_or hI.u32 (u32_shl1 _),bt_shl1 (by omega)]
     simp [hfx]
    ·simp only [decide_eq_false_iff_not] at hf
     have hfx:¬fnL L x=1:=hf
     simp [hfx]
  ·simp only [decide_eq_false_iff_not] at hb2
   have hin:i=fd.length:=by omega
   subst hin
   unfold VC28_k1
   exact h hg _ (sure_end hk hL hlang hc heq hm7 hI)
end Dec
namespace Dec
open Go Go.Proofs Rex Gly
def nxN (m:Mach) (i:Nat) (c:Int):Nat:=(nextM m (i:Int) c).toNat
inductive Pth (m:Mach) (k:Nat):Nat→Nat→List Int→Prop
 | one (i:Nat) (c:Int) (hc:0≤c∧c<m.2.1):Pth m k i (nxN m i c) [c]
 | step (i j:Nat) (c:Int) (w:List Int) (hc:0≤c∧c<m.2.1) (hk:nxN m i c<k) (h:Pth m k (nxN m i c) j w):Pth m k i j (c::w)
theorem Pth.mono {m:Mach} {k k' i j:Nat} {w:List Int} (h:Pth m k i j w) (hk:k≤k'):Pth m k' i j w:=by
 induction h with
 | one i c hc=>exact .one i c hc
 | step i j c w hc hl h ih=>exact .step i j c w hc (by omega) ih
theorem Pth.join {m:Mach} {k i a j:Nat} {u v:List Int} (h:Pth m k i a u) (ha:a<k) (h2:Pth m k a j v):Pth m k i j (u++v):=by
 induction h with
 | one i c hc=>exact .step i j c v hc ha h2
 | step i a c w hc hl h ih=>exact .step i j c (w++v) hc hl (ih ha h2)
theorem Pth.star {m:Mach} {k i:Nat} {u x:List Int} (h:Pth m (k+1) i k u) (hs:Star (Pth m k k k) x):Pth m (k+1) i k (u++x):=by
 induction hs with
 | nil=>rw [List.append_nil];exact h
 | more y z h1 h2 ih=>rw [←List.append_assoc];exact ih.join (by omega) (h2.mono (by omega))
theorem kleene {m:Mach} {k i j:Nat} {w:List Int} : Pth m (k+1) i j w↔Pth m k i j w∨∃ u v,w=u++v∧Pth m k i k u∧∃ x y,v=x++y∧Star (Pth m k k k) x∧Pth m k k j y:=by
 constructor
 ·intro h
  induction h with
  | one i c hc=>exact .inl (.one i c hc)
  | step i j c w hc hl h ih =>
   by_cases hk:nxN m i c<k
   ·rcases ih with ih | ⟨u,v,e,h1,x,y,e2,h2,h3⟩
    ·exact .inl (.step i j c w hc hk ih)
    ·exact .inr ⟨c::u,v,by rw [e];rfl,.step i k c u hc hk h1,x,y,e2,h2,h3⟩
   ·have hk2:nxN m i c=k:=by omega
    have h0:Pth m k i k [c]:=by rw [←hk2];exact .one i c hc
    rw [hk2] at ih
    rcases ih with ih | ⟨u,v,e,h1,x,y,e2,h2,h3⟩
    ·exact .inr ⟨[c],w,rfl,h0,[],w,rfl,.nil,ih⟩
    ·exact .inr ⟨[c],w,rfl,h0,u++x,y,by rw [e,e2,List.append_assoc],star_app (star_one h1) h2,h3⟩
 ·rintro (h | ⟨u,v,rfl,h1,x,y,rfl,h2,h3⟩)
  ·exact h.mono (by omega)
  ·rw [←List.append_assoc]
   exact ((h1.mono (by omega)).star h2).join (by omega) (h3.mono (by omega))
theorem pth_zero {m:Mach} {i j:Nat} {w:List Int} : Pth m 0 i j w↔∃ c:Nat,(c:Int)<m.2.1∧nxN m i (c:Int)=j∧w=[(c:Int)]:=by
 constructor
 ·intro h
  cases h with
  | one i c hc=>exact ⟨c.toNat,by omega,by rw [show ((c.toNat:Nat):Int)=c by omega],by rw [show ((c.toNat:Nat):Int)=c by omega]⟩
  | step i j c w hc hk h=>omega
 ·rintro ⟨c,h1,rfl,rfl⟩
  exact .one i _ ⟨by omega,h1⟩
theorem pth_all {m:Mach} (g:GoodM m):∀ (w:List Int) (i j:Nat),(i:Int)<m.1→(Pth m m.1.toNat i j w↔w≠[]∧SymW m.2.1 w∧runM m (i:Int) w=(j:Int))
 | [],i,j,hi=>⟨fun h=>(by cases h),fun h=>absurd rfl h.1⟩
 | c::w,i,j,hi=>by
  have nx:0≤c∧c<m.2.1→nextM m (i:Int) c=(nxN m i c:Int)∧(nxN m i c:Int)<m.1:=fun hc=>by
   have:=next_good g (q:=(i:Int)) (s:=c) ⟨by omega,hi⟩ hc
   unfold nxN;omega
  constructor
  ·intro h
   refine ⟨by simp,?_⟩
   cases h with
   | one i c hc =>
    refine ⟨fun x hx=>by rw [List.mem_singleton.1 hx];exact hc,?_⟩
    show nextM m (i:Int) c=_
    exact (nx hc).1
   | step i j c w hc hk h =>
    obtain ⟨h1,h2⟩:=nx hc
    have ih:=(pth_all g w _ j h2).1 h
    refine ⟨fun x hx=>?_,?_⟩
    ·rcases List.mem_cons.1 hx with rfl | hx
     ·exact hc
     ·exact ih.2.1 x hx
    ·show runM m (nextM m (i:Int) c) w=_
     rw [h1];exact ih.2.2
  ·rintro ⟨_,h1,h2⟩
   have hc:=h1 c List.mem_cons_self
   obtain ⟨n1,n2⟩:=nx hc
   have h3:runM m (nxN m i c:Int) w=(j:Int):=by rw [←n1];exact h2
   cases w with
   | nil =>
    have:nxN m i c=j:=by
     have h4:(nxN m i c:Int)=(j:Int):=h3
     omega
    rw [←this]
    exact .one i c hc
   | cons d w =>
    exact .step i j c _ hc (by omega) ((pth_all g (d::w) _ j n2).2 ⟨by simp,fun x hx=>h1 x (List.mem_cons_of_mem _ hx),h3⟩)
theorem getD_setG {α:Type} {s:List α} {i j:Nat} {x d:α} (hi:i<s.length):(s.set i x).getD j d=if i=j then x else s.getD j d:=by
 simp only [List.getD_eq_getElem?_getD,List.getElem?_set]
 by_cases h:i=j
 ·subst h;simp [hi]
 ·simp [h]
def RowE (n:Nat) (l:LN) (row:LI) (S:Nat→List Int→Prop):Prop:=row.length=n∧∀ j,j<n→Ent l (row.getD j 0) (S j)
theorem RowE.ext {k n:Nat} {kk:Int} {l l':LN} {kn:Kn} {row:LI} {S:Nat→List Int→Prop} (hP:Pool kk l kn) (he:Ext l l' k) (h:RowE n l row S):RowE n l' row S :=
 ⟨h.1,fun j hj=>(h.2 j hj).ext hP he⟩
def WayE (n:Nat) (l:LN) (way:LL) (i:Nat) (S:Nat→Nat→List Int→Prop):Prop:=way.length=n∧∀ q,q<i→RowE n l (way.getD q []) (S q)
theorem WayE.ext {k n i:Nat} {kk:Int} {l l':LN} {kn:Kn} {way:LL} {S:Nat→Nat→List Int→Prop} (hP:Pool kk l kn) (he:Ext l l' k) (h:WayE n l way i S):WayE n l' way i S :=
 ⟨h.1,fun j hj=>(h.2 j hj).ext hP he⟩
theorem sentence_end {m:Mach} {N:Nat} (g:GoodM m) (hN:m.1=(N:Int)) (hu:U32 m.2.2.2.2) {l:LN} {kn:Kn} (hP:Pool m.2.1 l kn) {all:Int}
  (ha:Ent l all (fun w=>∃ j:Nat,j<N∧bt m.2.2.2.2 j=true∧(Pth m N m.2.2.2.1.toNat j w∨((j:Int)=m.2.2.2.1∧w=[])))) :
  (∀ t,t<(l++[((5:Int),(all,all))]).length→OkN m.2.1 t (nd (l++[((5:Int),(all,all))]) t))∧∀ w,SymW m.2.1 w→(Mat (l++[((5:Int),(all,all))]) w ((l++[((5:Int),(all,all))]).length-1) 0 w.length↔accM m m.2.2.2.1 w=true):=by
 obtain ⟨a,rfl,ha1,ha2⟩:=ha
 have hlast:nd (l++[((5:Int),((a:Int),(a:Int)))]) l.length=((5:Int),((a:Int),(a:Int))):=getD_last
 have hok:∀ t,t<(l++[((5:Int),((a:Int),(a:Int)))]).length→OkN m.2.1 t (nd (l++[((5:Int),((a:Int),(a:Int)))]) t):=by
  intro t ht
  rw [List.length_append,List.length_singleton] at ht
  by_cases h1:t<l.length
  ·rw [nd_app h1];exact hP.ok t h1
  ·have:t=l.length:=by omega
   subst this
   rw [hlast]
   exact .inr (.inr (.inr (.inl ⟨.inr rfl,⟨by simp only;omega,by simp only;omega⟩,⟨by simp only;omega,by simp only;omega⟩⟩)))
 refine ⟨hok,fun w hw=>?_⟩
 have hlen:(l++[((5:Int),((a:Int),(a:Int)))]).length-1=l.length:=by simp
 have hlt:l.length<(l++[((5:Int),((a:Int),(a:Int)))]).length:=by simp
 rw [hlen,mat_lg hok _ hlt 0 w.length (Nat.zero_le _) (Nat.le_refl _),seg_all,tr_al hok hlt (by rw [hlast]),hlast]
 simp only [Int.toNat_natCast]
 rw [tr_app hP.ok ha1]
 have hd:=g.2.2.2.1
 unfold mD at hd
 have hs:((m.2.2.2.1.toNat:Nat):Int)=m.2.2.2.1:=by omega
 have hNt:m.1.toNat=N:=by omega
 have key:Lg (.al (tr l a) (tr l a)) w↔Lg (tr l a) w:=⟨fun h=>h.elim id id,fun h=>.inl h⟩
 rw [key,ha2 w]
 constructor
 ·rintro ⟨j,j1,j2,j3⟩
  unfold accM
  rcases j3 with j3 | ⟨j3,rfl⟩
  ·rw [←hNt] at j3
   have:=((pth_all g w _ j (by omega)).1 j3).2.2
   rw [hs] at this
   rw [this,Int.toNat_natCast];exact j2
  ·show bt m.2.2.2.2 (m.2.2.2.1).toNat=true
   rw [←j3,Int.toNat_natCast];exact j2
 ·intro h
  unfold accM at h
  have hr:=run_good g hd hw
  refine ⟨(runM m m.2.2.2.1 w).toNat,by omega,h,?_⟩
  by_cases hw0:w=[]
  ·subst hw0
   exact .inr ⟨by show (((m.2.2.2.1).toNat:Nat):Int)=_;omega,rfl⟩
  ·refine .inl ?_
   rw [←hNt]
   refine (pth_all g w _ _ (by omega)).2 ⟨hw0,hw,?_⟩
   rw [hs];omega
theorem VC33_of {m:Mach} (hm:Ok MachT m) {K:LN×Int→Prop} (hbad:∀ e,e≠0→¬GoodM m→K (([]:LN),e))
  (h:GoodM m→∀ l:LN,1≤l.length→l.length≤100000→(∀ t,t<l.length→OkN m.2.1 t (nd l t))→(∀ w,SymW m.2.1 w→(Mat l w (l.length-1) 0 w.length↔accM m m.2.2.2.1 w=true))→K (l,0)):VC33 m K:=by
 have hu:=ok_mach hm
 unfold VC33
 refine VC43_of hm ⟨fun hc=>hbad _ (by simpa using hc) fun hg=>?_,fun hc=>?_⟩
 ·rw [(chkM_zero m).2 hg] at hc;simp at hc
 have g:=(chkM_zero m).1 (by simpa using hc)
 have h:=h g
 obtain ⟨⟨a1,a2,a3,a4⟩,b,c,d,e⟩:=id g
 obtain ⟨N,hN⟩:∃ N:Nat,m.1=(N:Int):=⟨m.1.toNat,by omega⟩
 obtain ⟨Kn',hK⟩:∃ N:Nat,m.2.1=(N:Int):=⟨m.2.1.toNat,by omega⟩
 have hlen:=b.1
 have hNt:m.1.toNat=N:=by omega
 have d1:=d.1
 have d2:=d.2
 refine no_of (k:=m.2.1) ⟨fun t ht=>absurd ht (Nat.not_lt_zero _),fun n v hv=>(by cases hv)⟩ (by simp) fun none l0 kn0 hP0 he0 hno=>?_
 have hl0:=he0.len
 refine ⟨⟨by omega,by omega⟩,?_⟩
 simp only [hN,Int.toNat_natCast]
 refine Loop.by (fun x:Int×LL×LN×Kn=>∃ i:Nat,x.1=(i:Int)∧i≤N∧Pool m.2.1 x.2.2.1 x.2.2.2∧x.2.2.1.length≤1+6*i∧Ent x.2.2.1 none (fun _=>False)∧WayE N x.2.2.1 x.2.1 i (Pth m 0)) (fun x=>((N:Int)-x.1).toNat)
  ⟨0,rfl,by omega,hP0,by simp only [List.length_nil] at hl0;simp only;omega,hno,by simp,fun q hq=>by omega⟩ ?_
 rintro ⟨c1,way,l,kn⟩ ⟨i,rfl,hi,hP,hll,hn,hW⟩ X hX
 simp only at hP hll hn hW ⊢
 unfold VC33_l5
 simp only [hN,Int.toNat_natCast,List.length_replicate]
 refine ⟨fun hlt=>?_,fun hge=>?_⟩
 ·simp only [decide_eq_true_eq] at hlt
  have hiN:i<N:=by omega
  refine VC66_of (by omega) (by omega) ?_
  have hwl:=hW.1
  have hil:i<m.2.2.1.length:=by omega
  have hrl:=b.2 _ (getD_mem (d:=([]:List Int)) hil)
  refine ⟨⟨by omega,by omega⟩,⟨by omega,by omega⟩,?_⟩
  refine Loop.by (fun x:Int×LL×LN×Kn=>∃ s:Nat,x.1=(s:Int)∧s≤Kn'∧Pool m.2.1 x.2.2.1 x.2.2.2∧x.2.2.1.length≤1+6*i+2*s∧Ent x.2.2.1 none (fun _=>False)∧WayE N x.2.2.1 x.2.1 i (Pth m 0)∧RowE N x.2.2.1 (x.2.1.getD i []) (fun j w=>∃ c:Nat,c<s∧nxN m i (c:Int)=j∧w=[(c:Int)])) (fun x=>((Kn':Int)-x.1).toNat)
   ⟨0,rfl,by omega,hP,hll,hn,⟨by simp only [List.length_set];exact hwl,fun q hq=>by simp only;rw [getD_setG (by omega),if_neg (by omega)];exact hW.2 q hq⟩,?_⟩ ?_
  ·simp only
   rw [getD_setG (by omega),if_pos rfl]
   refine ⟨by simp,fun j hj=>?_⟩
   rw [getD_lt _ (by simpa using hj),List.getElem_replicate]
   exact hn.congr fun w=>⟨fun h=>h.elim,fun ⟨c,h,_⟩=>by omega⟩
  rintro ⟨c2,way2,l2,kn2⟩ ⟨s,rfl,hs,hP2,hll2,hn2,hW2,hR2⟩ Y hY
  simp only at hP2 hll2 hn2 hW2 hR2 ⊢
  have hwl2:=hW2.1
  unfold VC33_l6
  simp only [Int.toNat_natCast]
  refine ⟨fun hlt2=>?_,fun hge2=>?_⟩
  ·simp only [decide_eq_true_eq] at hlt2
   have hsK:s<Kn':=by omega
   have hcc:0≤(s:Int)∧(s:Int)<m.2.1:=by omega
   have hnx:=next_good g (q:=(i:Int)) (s:=(s:Int)) ⟨by omega,by omega⟩ hcc
   have en:(m.2.2.1.getD i []).getD s 0=(nxN m i (s:Int):Int):=by
    have e9:nextM m (i:Int) (s:Int)=(m.2.2.1.getD i []).getD s 0:=by unfold nextM;simp only [Int.toNat_natCast]
    unfold nxN
    rw [←e9];omega
   have hto:nxN m i (s:Int)<N:=by unfold nxN;omega
   rw [en]
   simp only [Int.toNat_natCast]
   have hrl2:=hR2.1
   have i1:inIdx (s:Int) (m.2.2.1.getD i []).length:=⟨by omega,by omega⟩
   have i2:inIdx (i:Int) way2.length:=⟨by omega,by omega⟩
   have i3:inIdx (nxN m i (s:Int):Int) (way2.getD i []).length:=⟨by omega,by omega⟩
   have P2:VCcr65 (3:Int) (s:Int) (0:Int) l2 kn2 (fun (ret73v:Int×LN×Kn)=>VCcr67 ((way2.getD i []).getD (nxN m i (s:Int)) 0) ret73v.1 ret73v.2.1 ret73v.2.2 (fun (ret74v:Int×LN×Kn)=>(inIdx (nxN m i (s:Int):Int) (way2.getD i []).length∧VC33_k10 (s:Int) Y (way2.set i ((way2.getD i []).set (nxN m i (s:Int)) ret74v.1)) ret74v.2.1 ret74v.2.2))):=by
    refine sym_of hP2 (by omega) hcc fun r l3 kn3 hP3 he3 hr=>?_
    have hl3:=he3.len
    have hold:=(hR2.2 _ hto).ext hP2 he3
    refine or_of hP3 (by omega) hold hr fun r4 l4 kn4 hP4 he4 hr4=>⟨i3,?_⟩
    have hl4:=he4.len
    have hE:=he3.trans he4
    unfold VC33_k10
    refine ⟨⟨by omega,by omega⟩,hY _ ⟨s+1,by simp,by omega,hP4,by simp only;omega,hn2.ext hP2 hE,⟨by simp only [List.length_set];exact hwl2,fun q hq=>?_⟩,?_⟩ (by simp only;omega)⟩
    ·simp only
     rw [getD_setG (by omega),if_neg (by omega)]
     exact (hW2.2 q hq).ext hP2 hE
    ·simp only
     rw [getD_setG (by omega),if_pos rfl]
     refine ⟨by simp only [List.length_set];exact hrl2,fun j hj=>?_⟩
     rw [getD_setG (by omega)]
     by_cases hj2:nxN m i (s:Int)=j
     ·subst hj2
      rw [if_pos rfl]
      refine hr4.congr fun w=>?_
      constructor
      ·rintro (⟨c,h1,h2,h3⟩ | h1)
       ·exact ⟨c,by omega,h2,h3⟩
       ·exact ⟨s,by omega,rfl,h1⟩
      ·rintro ⟨c,h1,h2,h3⟩
       by_cases hcs:c<s
       ·exact .inl ⟨c,hcs,h2,h3⟩
       ·have:c=s:=by omega
        subst this
        exact .inr h3
     ·rw [if_neg hj2]
      refine ((hR2.2 j hj).ext hP2 hE).congr fun w=>?_
      constructor
      ·rintro ⟨c,h1,h2,h3⟩
       exact ⟨c,by omega,h2,h3⟩
      ·rintro ⟨c,h1,h2,h3⟩
       refine ⟨c,?_,h2,h3⟩
       by_cases hcs:c=s
       ·subst hcs;exact absurd h2 hj2
       ·omega
   have P1:VCcr65 (3:Int) (s:Int) (0:Int) l2 kn2 (fun (ret73v:Int×LN×Kn)=>(inIdx (nxN m i (s:Int):Int) (way2.getD i []).length∧VCcr67 ((way2.getD i []).getD (nxN m i (s:Int)) 0) ret73v.1 ret73v.2.1 ret73v.2.2 (fun (ret74v:Int×LN×Kn)=>(inIdx (nxN m i (s:Int):Int) (way2.getD i []).length∧VC33_k10 (s:Int) Y (way2.set i ((way2.getD i []).set (nxN m i (s:Int)) ret74v.1)) ret74v.2.1 ret74v.2.2)))):=by
    obtain ⟨n9,h9⟩:=P2
    refine sym_of hP2 (by omega) hcc fun r l3 kn3 hP3 he3 hr=>⟨i3,?_⟩
    have hl3:=he3.len
    have hold:=(hR2.2 _ hto).ext hP2 he3
    refine or_of hP3 (by omega) hold hr fun r4 l4 kn4 hP4 he4 hr4=>⟨i3,?_⟩
    have hl4:=he4.len
    have hE:=he3.trans he4
    unfold VC33_k10
    refine ⟨⟨by omega,by omega⟩,hY _ ⟨s+1,by simp,by omega,hP4,by simp only;omega,hn2.ext hP2 hE,⟨by simp only [List.length_set];exact hwl2,fun q hq=>?_⟩,?_⟩ (by simp only;omega)⟩
    ·simp only
     rw [getD_setG (by omega),if_neg (by omega)]
     exact (hW2.2 q hq).ext hP2 hE
    ·simp only
     rw [getD_setG (by omega),if_pos rfl]
     refine ⟨by simp only [List.length_set];exact hrl2,fun j hj=>?_⟩
     rw [getD_setG (by omega)]
     by_cases hj2:nxN m i (s:Int)=j
     ·subst hj2
      rw [if_pos rfl]
      refine hr4.congr fun w=>?_
      constructor
      ·rintro (⟨c,h1,h2,h3⟩ | h1)
       ·exact ⟨c,by omega,h2,h3⟩
       ·exact ⟨s,by omega,rfl,h1⟩
      ·rintro ⟨c,h1,h2,h3⟩
       by_cases hcs:c<s
       ·exact .inl ⟨c,hcs,h2,h3⟩
       ·have:c=s:=by omega
        subst this
        exact .inr h3
     ·rw [if_neg hj2]
      refine ((hR2.2 j hj).ext hP2 hE).congr fun w=>?_
      constructor
      ·rintro ⟨c,h1,h2,h3⟩
       exact ⟨c,by omega,h2,h3⟩
      ·rintro ⟨c,h1,h2,h3⟩
       refine ⟨c,?_,h2,h3⟩
       by_cases hcs:c=s
       ·subst hcs;exact absurd h2 hj2
       ·omega
   exact ⟨i1,i2,i2,⟨⟨i3,P2⟩,P1⟩,⟨i3,P2⟩,P1⟩
  ·simp only [decide_eq_false_iff_not] at hge2
   have hsK:s=Kn':=by omega
   subst hsK
   unfold VC33_k9
   refine ⟨⟨by omega,by omega⟩,hX _ ⟨i+1,by simp,by omega,hP2,by simp only;omega,hn2,⟨hwl2,fun q hq=>?_⟩⟩ (by simp only;omega)⟩
   simp only
   by_cases hqi:q<i
   ·exact hW2.2 q hqi
   ·have:q=i:=by omega
    subst this
    refine ⟨hR2.1,fun j hj=>(hR2.2 j hj).congr fun w=>?_⟩
    rw [pth_zero]
    constructor
    ·rintro ⟨c,h1,h2,h3⟩;exact ⟨c,by omega,h2,h3⟩
    ·rintro ⟨c,h1,h2,h3⟩;exact ⟨c,by omega,h2,h3⟩
 ·simp only [decide_eq_false_iff_not] at hge
  have hiN:i=N:=by omega
  subst hiN
  clear hX X
  unfold VC33_k1
  refine Loop.by (fun x:Int×LL×LN×Kn=>∃ k:Nat,x.1=(k:Int)∧k≤i∧Pool m.2.1 x.2.2.1 x.2.2.2∧x.2.2.1.length≤100+200*k∧Ent x.2.2.1 none (fun _=>False)∧WayE i x.2.2.1 x.2.1 i (Pth m k)) (fun x=>((i:Int)-x.1).toNat)
   ⟨0,rfl,by omega,hP,by simp only;omega,hn,hW⟩ ?_
  rintro ⟨c3,way3,l3,kn3⟩ ⟨k,rfl,hk,hP3,hll3,hn3,hW3⟩ X hX
  simp only at hP3 hll3 hn3 hW3 ⊢
  have hwl3:=hW3.1
  unfold VC33_l2
  simp only [hN,Int.toNat_natCast]
  refine ⟨fun hlt=>?_,fun hge=>?_⟩
  ·simp only [decide_eq_true_eq] at hlt
   have hki:k<i:=by omega
   have hrk:=hW3.2 k hki
   refine ⟨⟨by omega,by omega⟩,⟨by omega,by have:=hrk.1;omega⟩,star_of hP3 (by omega) (hrk.2 k hki) fun lp l4 kn4 hP4 he4 hlp=>⟨⟨by omega,by omega⟩,?_⟩⟩
   have hl4:=he4.len
   refine Loop.by (fun x:Int×LL×LN×Kn=>∃ q:Nat,x.1=(q:Int)∧q≤i∧Pool m.2.1 x.2.2.1 x.2.2.2∧x.2.2.1.length≤100+200*k+1+21*q∧Ent x.2.2.1 none (fun _=>False)∧Ent x.2.2.1 lp (Star (Pth m k k k))∧WayE i x.2.2.1 way3 i (Pth m k)∧WayE i x.2.2.1 x.2.1 q (Pth m (k+1))) (fun x=>((i:Int)-x.1).toNat)
    ⟨0,rfl,by omega,hP4,by simp only;omega,hn3.ext hP3 he4,hlp,hW3.ext hP3 he4,by simp,fun q hq=>by omega⟩ ?_
   rintro ⟨c5,next,l5,kn5⟩ ⟨q,rfl,hq,hP5,hll5,hn5,hlp5,hW5,hX5⟩ Y hY
   simp only at hP5 hll5 hn5 hlp5 hW5 hX5 ⊢
   have hxl5:=hX5.1
   unfold VC33_l3
   simp only [hN,Int.toNat_natCast,List.length_replicate]
   refine ⟨fun hlt2=>?_,fun hge2=>?_⟩
   ·simp only [decide_eq_true_eq] at hlt2
    have hqi:q<i:=by omega
    refine ⟨⟨by omega,by omega⟩,⟨by omega,by omega⟩,⟨by omega,by rw [List.length_set];omega⟩,?_⟩
    refine Loop.by (fun x:Int×LL×LN×Kn=>∃ j:Nat,x.1=(j:Int)∧j≤i∧Pool m.2.1 x.2.2.1 x.2.2.2∧x.2.2.1.length≤100+200*k+1+21*q+3*j∧Ent x.2.2.1 none (fun _=>False)∧Ent x.2.2.1 lp (Star (Pth m k k k))∧WayE i x.2.2.1 way3 i (Pth m k)∧WayE i x.2.2.1 x.2.1 q (Pth m (k+1))∧(x.2.1.getD q []).length=i∧∀ j',j'<j→Ent x.2.2.1 ((x.2.1.getD q []).getD j' 0) (Pth m (k+1) q j')) (fun x=>((i:Int)-x.1).toNat)
     ⟨0,rfl,by omega,hP5,by simp only;omega,hn5,hlp5,hW5,⟨by simp only [List.length_set];exact hxl5,fun q' hq'=>by simp only;rw [getD_setG (by omega),if_neg (by omega)];exact hX5.2 q' hq'⟩,by simp only;rw [getD_setG (by omega),if_pos rfl];simp,fun j' hj'=>by omega⟩ ?_
    rintro ⟨c6,next6,l6,kn6⟩ ⟨j,rfl,hj,hP6,hll6,hn6,hlp6,hW6,hX6,hrl6,hR6⟩ Z hZ
    simp only at hP6 hll6 hn6 hlp6 hW6 hX6 hrl6 hR6 ⊢
    have hxl6:=hX6.1
    unfold VC33_l4
    simp only [hN,Int.toNat_natCast]
    rw [getD_setG (by omega),if_pos rfl]
    simp only [List.length_replicate]
    refine ⟨fun hlt3=>?_,fun hge3=>?_⟩
    ·simp only [decide_eq_true_eq] at hlt3
     have hji:j<i:=by omega
     have rq:=hW6.2 q hqi
     have rk:=hW6.2 k hki
     have rql:=rq.1
     have rkl:=rk.1
     refine ⟨⟨by omega,by omega⟩,⟨by omega,by omega⟩,⟨by omega,by omega⟩,⟨by omega,by omega⟩,?_⟩
     refine cat_of hP6 (by omega) hlp6 (rk.2 j hji) fun r7 l7 kn7 hP7 he7 hr7=>?_
     have hl7:=he7.len
     refine cat_of hP7 (by omega) ((rq.2 k hki).ext hP6 he7) hr7 fun r8 l8 kn8 hP8 he8 hr8=>?_
     have hl8:=he8.len
     have hE8:=he7.trans he8
     refine ⟨⟨by omega,by omega⟩,⟨by omega,by omega⟩,⟨by omega,by omega⟩,?_⟩
     refine or_of hP8 (by omega) ((rq.2 j hji).ext hP6 hE8) hr8 fun r9 l9 kn9 hP9 he9 hr9=>?_
     have hl9:=he9.len
     have hE:=hE8.trans he9
     refine ⟨⟨by omega,by omega⟩,?_⟩
     unfold VC33_k8
     refine ⟨⟨by omega,by omega⟩,hZ _ ⟨j+1,by simp,by omega,hP9,by simp only;omega,hn6.ext hP6 hE,hlp6.ext hP6 hE,hW6.ext hP6 hE,⟨by simp only [List.length_set];exact hxl6,fun q' hq'=>?_⟩,?_,fun j' hj'=>?_⟩ (by simp only;omega)⟩
     ·simp only
      rw [getD_setG (by omega),if_neg (by omega)]
      exact (hX6.2 q' hq').ext hP6 hE
     ·simp only
      rw [getD_setG (by omega),if_pos rfl,List.length_set];exact hrl6
     ·simp only
      rw [getD_setG (by omega),if_pos rfl,getD_setG (by omega)]
      by_cases hjj:j=j'
      ·subst hjj
       rw [if_pos rfl]
       exact hr9.congr fun w=>kleene.symm
      ·rw [if_neg hjj]
       exact (hR6 j' (by omega)).ext hP6 hE
    ·simp only [decide_eq_false_iff_not] at hge3
     have hji:j=i:=by omega
     subst hji
     unfold VC33_k7
     refine ⟨⟨by omega,by omega⟩,hY _ ⟨q+1,by simp,by omega,hP6,by simp only;omega,hn6,hlp6,hW6,⟨hxl6,fun q' hq'=>?_⟩⟩ (by simp only;omega)⟩
     simp only
     by_cases hqq:q'<q
     ·exact hX6.2 q' hqq
     ·have:q'=q:=by omega
      subst this
      exact ⟨hrl6,hR6⟩
   ·simp only [decide_eq_false_iff_not] at hge2
    have hqi:q=i:=by omega
    subst hqi
    unfold VC33_k6
    exact ⟨⟨by omega,by omega⟩,hX _ ⟨k+1,by simp,by omega,hP5,by simp only;omega,hn5,hX5⟩ (by simp only;omega)⟩
  ·simp only [decide_eq_false_iff_not] at hge
   have hki:k=i:=by omega
   subst hki
   clear hX X
   unfold VC33_k2
   refine Loop.by (fun x:Int×Int×LN×Kn=>∃ j:Nat,x.2.1=(j:Int)∧j≤k∧Pool m.2.1 x.2.2.1 x.2.2.2∧x.2.2.1.length≤3000+3*j∧WayE k x.2.2.1 way3 k (Pth m k)∧Ent x.2.2.1 x.1 (fun w=>∃ q:Nat,q<j∧bt m.2.2.2.2 q=true∧(Pth m k m.2.2.2.1.toNat q w∨((q:Int)=m.2.2.2.1∧w=[])))) (fun x=>((k:Int)-x.2.1).toNat)
    ⟨0,rfl,by omega,hP3,by simp only;omega,hW3,hn3.congr fun w=>⟨fun h=>h.elim,fun ⟨q,h,_⟩=>by omega⟩⟩ ?_
   rintro ⟨all,c7,l7,kn7⟩ ⟨j,rfl,hj,hP7,hll7,hW7,ha7⟩ X hX
   simp only at hP7 hll7 hW7 ha7 ⊢
   have hwl7:=hW7.1
   unfold VC33_l1
   simp only [hN,Int.toNat_natCast]
   refine ⟨fun hlt=>VC44_of hu (by omega) ?_,fun hge=>?_⟩
   ·simp only [decide_eq_true_eq] at hlt
    have hjk:j<k:=by omega
    simp only [Int.toNat_natCast]
    refine ⟨fun hb=>?_,fun hb=>?_⟩
    ·have hs1:m.2.2.2.1.toNat<k:=by omega
     have rs:=hW7.2 _ hs1
     have rsl:=rs.1
     refine ⟨⟨by omega,by omega⟩,⟨by omega,by omega⟩,?_⟩
     refine or_of hP7 (by omega) ha7 (rs.2 j hjk) fun r8 l8 kn8 hP8 he8 hr8=>?_
     have hl8:=he8.len
     refine ⟨fun hst=>?_,fun hst=>?_⟩
     ·simp only [decide_eq_true_eq] at hst
      refine ep_of hP8 (by omega) fun r9 l9 kn9 hP9 he9 hr9=>?_
      have hl9:=he9.len
      refine or_of hP9 (by omega) (hr8.ext hP8 he9) hr9 fun r10 l10 kn10 hP10 he10 hr10=>?_
      have hl10:=he10.len
      unfold VC33_k5 VC33_k4
      refine ⟨⟨by omega,by omega⟩,hX _ ⟨j+1,by simp,by omega,hP10,by simp only;omega,hW7.ext hP7 ((he8.trans he9).trans he10),hr10.congr fun w=>?_⟩ (by simp only;omega)⟩
      constructor
      ·rintro ((⟨q,h1,h2,h3⟩ | h1) | h1)
       ·exact ⟨q,by omega,h2,h3⟩
       ·exact ⟨j,by omega,hb,.inl h1⟩
       ·exact ⟨j,by omega,hb,.inr ⟨hst,h1⟩⟩
      ·rintro ⟨q,h1,h2,h3⟩
       by_cases hqj:q<j
       ·exact .inl (.inl ⟨q,hqj,h2,h3⟩)
       ·have:q=j:=by omega
        subst this
        rcases h3 with h3 | ⟨_,h3⟩
        ·exact .inl (.inr h3)
        ·exact .inr h3
     ·simp only [decide_eq_false_iff_not] at hst
      unfold VC33_k5 VC33_k4
      refine ⟨⟨by omega,by omega⟩,hX _ ⟨j+1,by simp,by omega,hP8,by simp only;omega,hW7.ext hP7 he8,hr8.congr fun w=>?_⟩ (by simp only;omega)⟩
      constructor
      ·rintro (⟨q,h1,h2,h3⟩ | h1)
       ·exact ⟨q,by omega,h2,h3⟩
       ·exact ⟨j,by omega,hb,.inl h1⟩
      ·rintro ⟨q,h1,h2,h3⟩
       by_cases hqj:q<j
       ·exact .inl ⟨q,hqj,h2,h3⟩
       ·have:q=j:=by omega
        subst this
        rcases h3 with h3 | ⟨h3,_⟩
        ·exact .inr h3
        ·exact absurd h3 hst
    ·unfold VC33_k4
     refine ⟨⟨by omega,by omega⟩,hX _ ⟨j+1,by simp,by omega,hP7,by simp only;omega,hW7,ha7.congr fun w=>?_⟩ (by simp only;omega)⟩
     constructor
     ·rintro ⟨q,h1,h2,h3⟩
      exact ⟨q,by omega,h2,h3⟩
     ·rintro ⟨q,h1,h2,h3⟩
      refine ⟨q,?_,h2,h3⟩
      by_cases hqj:q=j
      ·subst hqj
       rw [hb] at h2;cases h2
      ·omega
   ·simp only [decide_eq_false_iff_not] at hge
    have hjk:j=k:=by omega
    subst hjk
    unfold VC33_k3
    obtain ⟨f1,f2⟩:=sentence_end g hN hu hP7 ha7
    exact ⟨by unfold roomN;simp only [List.length_singleton];omega,h _ (by simp) (by simp only [List.length_append,List.length_singleton];omega) f1 f2⟩
end Dec
