/-
The plain contract of the document's check of machines. Machines that take the same words have the same least machine. The law SolveBack in plain Lean: the minimal machine of the expression of a machine is its minimal machine.
-/
import Derived.Test.YtckghdhnmpnljaaGenSd
import Derived.Test.YtckghdhnmpnljaaCanon
import Derived.Test.YtckghdhnmpnljaaKlee
set_option linter.unusedSimpArgs false
set_option linter.unusedVariables false
namespace Dec
open Go Go.Proofs
theorem VC21_of {m:Mach} (hm:Ok MachT m) {K:Int→Prop} (h:K (chkM m)):VC21 m K:=by
 have hu:=ok_mach hm
 unfold VC21
 refine ⟨fun ha=>?_,fun ha=>?_⟩
 ·have:chkM m=1:=by
   unfold chkM
   rw [if_pos]
   rintro ⟨a1,a2,a3,a4⟩
   simp at ha
   omega
  rw [this] at h;exact h
 have a:mA m:=by
  simp only [Bool.or_eq_false_iff,decide_eq_false_iff_not] at ha
  exact ⟨by omega,by omega,by omega,by omega⟩
 obtain ⟨a1,a2,a3,a4⟩:=id a
 refine ⟨fun hb=>?_,fun hb=>?_⟩
 ·have:chkM m=3:=by
   unfold chkM
   rw [if_neg (by simpa using a),if_pos]
   rintro ⟨b1,_⟩
   simp [b1] at hb
  rw [this] at h;exact h
 have hlen:(m.2.2.1.length:Int)=m.1:=by simpa using hb
 refine loop_count m.2.2.1.length (fun i=>∀ j,j<i→((m.2.2.1.getD j []).length:Int)=m.2.1) (by simp) ?_
 intro i hi hP X hX
 unfold VC21_l3
 simp only [Int.toNat_natCast]
 refine ⟨fun hb=>?_,fun hb=>?_⟩
 ·simp only [decide_eq_true_eq] at hb
  have hil:i<m.2.2.1.length:=by omega
  refine ⟨⟨by omega,by omega⟩,fun hc=>?_,fun hc=>⟨⟨by omega,by omega⟩,hX hil ?_⟩⟩
  ·have:chkM m=3:=by
    unfold chkM
    rw [if_neg (by simpa using a),if_pos]
    rintro ⟨_,b2⟩
    have:=b2 _ (getD_mem (d:=([]:List Int)) hil)
    simp only [Bool.not_eq_true',decide_eq_false_iff_not] at hc
    exact hc this
   rw [this] at h;exact h
  ·intro j hj
   by_cases hji:j<i
   ·exact hP j hji
   ·have:j=i:=by omega
    subst this
    simpa [-List.getD_eq_getElem?_getD] using hc
 simp only [decide_eq_false_iff_not] at hb
 have b:mB m:=by
  refine ⟨hlen,fun l hl=>?_⟩
  obtain ⟨j,hj,rfl⟩:=List.mem_iff_getElem.1 hl
  have:=hP j (by omega)
  rwa [getD_lt [] hj] at this
 unfold VC21_k1
 refine loop_count m.2.2.1.length (fun i=>∀ j,j<i→∀ n∈m.2.2.1.getD j [],0≤n∧n<m.1) (by simp) ?_
 intro i hi hP X hX
 unfold VC21_l1
 refine ⟨fun hb=>?_,fun hb=>?_⟩
 ·simp only [decide_eq_true_eq] at hb
  have hil:i<m.2.2.1.length:=by omega
  refine ⟨⟨by omega,by omega⟩,?_⟩
  have hrow:=b.2 _ (getD_mem (d:=([]:List Int)) hil)
  refine loop_count (m.2.2.1.getD i []).length (fun j=>∀ k,k<j→0≤(m.2.2.1.getD i []).getD k 0∧(m.2.2.1.getD i []).getD k 0<m.1) (by simp) ?_
  intro j hj hQ Y hY
  unfold VC21_l2
  simp only [Int.toNat_natCast]
  refine ⟨fun hc=>?_,fun hc=>?_⟩
  ·simp only [decide_eq_true_eq] at hc
   have hjl:j<(m.2.2.1.getD i []).length:=by omega
   refine ⟨⟨by omega,by omega⟩,fun hbad=>?_,fun hgood=>⟨⟨by omega,by omega⟩,hY hjl ?_⟩⟩
   ·have hc2:chkM m=2:=by
     unfold chkM
     rw [if_neg (by simpa using a),if_neg (by simpa using b),if_pos]
     intro hC
     have:=hC _ (getD_mem (d:=([]:List Int)) hil) _ (getD_mem (d:=(0:Int)) hjl)
     simp [-List.getD_eq_getElem?_getD] at hbad
     omega
    rw [hc2] at h
    exact h
   ·intro k hk
    by_cases hkj:k<j
    ·exact hQ k hkj
    ·have:k=j:=by omega
     subst this
     simp [-List.getD_eq_getElem?_getD] at hgood
     omega
  ·simp only [decide_eq_false_iff_not] at hc
   unfold VC21_k3
   refine ⟨⟨by omega,by omega⟩,hX hil ?_⟩
   intro j' hj' n hn
   by_cases hji:j'<i
   ·exact hP j' hji n hn
   ·have:j'=i:=by omega
    subst this
    obtain ⟨k,hk,rfl⟩:=List.mem_iff_getElem.1 hn
    have:=hQ k (by omega)
    rw [getD_lt 0 hk] at this
    exact this
 simp only [decide_eq_false_iff_not] at hb
 have c:mC m:=by
  intro l hl n hn
  obtain ⟨j,hj,rfl⟩:=List.mem_iff_getElem.1 hl
  have:=hP j (by omega) n
  rw [getD_lt [] hj] at this
  exact this hn
 unfold VC21_k2
 refine ⟨fun hd=>?_,fun hd=>?_⟩
 ·have:chkM m=2:=by
   unfold chkM
   rw [if_neg (by simpa using a),if_neg (by simpa using b),if_neg (by simpa using c),if_pos]
   rintro ⟨d1,d2⟩
   simp at hd
   omega
  rw [this] at h;exact h
 have d:mD m:=by simp at hd;exact ⟨by omega,by omega⟩
 have e1:IntKind.wrap .u64 m.1=m.1:=wrapU64 ⟨by omega,by omega⟩
 rw [e1]
 obtain ⟨k,hk⟩:∃ k:Nat,m.1=(k:Int):=⟨m.1.toNat,by omega⟩
 have hE:bShl .u32 1 m.1≤m.2.2.2.2↔¬mE m:=by
  unfold mE
  rw [hk,shl1 (by omega)]
  simp only [Int.toNat_natCast]
  omega
 refine ⟨by omega,fun he=>?_,fun he=>?_⟩
 ·simp only [decide_eq_true_eq] at he
  have hc2:chkM m=4:=by
   unfold chkM
   rw [if_neg (by simpa using a),if_neg (by simpa using b),if_neg (by simpa using c),if_neg (by simpa using d),if_pos (hE.1 he)]
  rw [hc2] at h
  exact h
 ·simp only [decide_eq_false_iff_not] at he
  have hc2:chkM m=0:=(chkM_zero m).2 ⟨a,b,c,d,by rw [hE] at he;simpa using he⟩
  rw [hc2] at h
  exact h
end Dec
namespace Dec
open Go Go.Proofs
def Alike (a b:Mach):Prop:=∀ v,SymW a.2.1 v→accM a a.2.2.2.1 v=accM b b.2.2.2.1 v
def XEq (a b:Mach) (x y:Int):Prop:=∀ w,SymW a.2.1 w→accM a x w=accM b y w
structure Corr (a b:Mach) (la lb:List Int):Prop where
 len:la.length=lb.length
 eq:∀ j,j<la.length→XEq a b (la.getD j 0) (lb.getD j 0)
theorem row_corr {a b:Mach} (ga:GoodM a) (gb:GoodM b) (hk:a.2.1=b.2.1) {x y:Int} (hx:0≤x∧x<a.1) (hy:0≤y∧y<b.1) (hxy:XEq a b x y) {fa fb:List Int} (ha:FoundL a fa) (hb:FoundL b fb) (hc:Corr a b fa fb) :
  ∀ s:Nat,(s:Int)≤a.2.1→(rowStep a (clM a) x s fa).2=(rowStep b (clM b) y s fb).2∧Corr a b (rowStep a (clM a) x s fa).1 (rowStep b (clM b) y s fb).1
 | 0,_=>⟨rfl,hc⟩
 | s+1,hs=>by
  obtain ⟨ih1,ih2⟩:=row_corr ga gb hk hx hy hxy ha hb hc s (by omega)
  have ra:=rowStep_ok ga hx ha s (by omega)
  have rb:=rowStep_ok gb hy hb s (by omega)
  have ca:=cl_good (m:=a) (next_good ga hx (s:=(s:Int)) ⟨by omega,by omega⟩)
  have cb:=cl_good (m:=b) (next_good gb hy (s:=(s:Int)) ⟨by omega,by omega⟩)
  have hn:XEq a b (nextM a x (s:Int)) (nextM b y (s:Int)):=by
   intro w hw
   exact hxy ((s:Int)::w) (fun z hz=>by
    rw [List.mem_cons] at hz
    rcases hz with rfl | hz
    ·exact ⟨by omega,by omega⟩
    ·exact hw z hz)
  unfold rowStep
  try dsimp only
  generalize rowStep a (clM a) x s fa=A at *
  generalize rowStep b (clM b) y s fb=B at *
  generalize (clM a).getD (nextM a x (s:Int)).toNat 0=cA at *
  generalize (clM b).getD (nextM b y (s:Int)).toNat 0=cB at *
  have hcc:XEq a b cA cB:=fun w hw=>by
   rw [←ca.2.2 w hw,hn w hw]
   exact cb.2.2 w (by rw [←hk];exact hw)
  have hidx:idxOf (fun z=>decide (cA=z)) A.1=idxOf (fun z=>decide (cB=z)) B.1:=by
   refine idxOf_congr ih2.len fun j hj=>?_
   have h1:=ra.found.rep j hj
   have h2:=rb.found.rep j (by rw [←ih2.len];exact hj)
   have h3:=ih2.eq j hj
   rw [decide_eq_decide]
   constructor
   ·intro e
    refine rep_eq cb.1.1 h2.1.1 cb.2.1 h2.2 fun w hw=>?_
    rw [←hk] at hw
    rw [←hcc w hw,e,h3 w hw]
   ·intro e
    refine rep_eq ca.1.1 h1.1.1 ca.2.1 h1.2 fun w hw=>?_
    rw [hcc w hw,e,h3 w hw]
  rw [hidx]
  by_cases hneg:idxOf (fun z=>decide (cB=z)) B.1<0
  ·simp only [if_pos hneg]
   refine ⟨by rw [ih1,ih2.len],by simp [ih2.len],fun j hj=>?_⟩
   simp only [List.length_append,List.length_cons,List.length_nil] at hj
   by_cases hj2:j<A.1.length
   ·rw [getD_app_left hj2,getD_app_left (by rw [←ih2.len];exact hj2)]
    exact ih2.eq j hj2
   ·have:j=A.1.length:=by omega
    subst this
    have e1:(A.1++[cA]).getD A.1.length 0=cA:=by rw [getD_lt _ (by simp)];simp
    have e2:(B.1++[cB]).getD A.1.length 0=cB:=by rw [ih2.len,getD_lt _ (by simp)];simp
    rw [e1,e2];exact hcc
  ·simp only [if_neg hneg]
   exact ⟨by rw [ih1],ih2⟩
structure Corr3 (a b:Mach) (S T:LSt):Prop where
 out:S.1=T.1
 found:Corr a b S.2.1 T.2.1
 rows:S.2.2=T.2.2
theorem step_corr {a b:Mach} (ga:GoodM a) (gb:GoodM b) (hk:a.2.1=b.2.1) {i:Nat} {S T:LSt} (hS:LInv a i S) (hT:LInv b i T) (hi:i<S.2.1.length) (h:Corr3 a b S T):Corr3 a b (stepL a (clM a) i S) (stepL b (clM b) i T):=by
 have hi2:i<T.2.1.length:=by rw [←h.found.len];exact hi
 have hkn:=ga.1.2.2.1
 have hx:=(hS.found.rep i hi).1
 have hy:=(hT.found.rep i hi2).1
 obtain ⟨k1,k2⟩:=row_corr ga gb hk hx hy (h.found.eq i hi) hS.found hT.found h.found a.2.1.toNat (by omega)
 have hka:b.2.1.toNat=a.2.1.toNat:=by rw [hk]
 have hl:i<(rowStep a (clM a) (S.2.1.getD i 0) a.2.1.toNat S.2.1).1.length:=by
  obtain ⟨l,hl⟩:=rowStep_pre a (clM a) (S.2.1.getD i 0) a.2.1.toNat S.2.1
  rw [hl];simp;omega
 unfold stepL
 rw [hka]
 try dsimp only
 generalize rowStep a (clM a) (S.2.1.getD i 0) a.2.1.toNat S.2.1=A at *
 generalize rowStep b (clM b) (T.2.1.getD i 0) a.2.1.toNat T.2.1=B at *
 have hb:bt a.2.2.2.2 (A.1.getD i 0).toNat=bt b.2.2.2.2 (B.1.getD i 0).toNat:=k2.eq i hl [] (fun z hz=>by cases hz)
 refine ⟨?_,k2,?_⟩
 ·dsimp only
  rw [hb,h.out]
 ·dsimp only
  rw [h.rows,k1]
theorem st_corr {a b:Mach} (ga:GoodM a) (gb:GoodM b) (hk:a.2.1=b.2.1) (hal:Alike a b):∀ i,Corr3 a b (stL a (clM a) i) (stL b (clM b) i)
 | 0=>by
  have ca:=cl_good (m:=a) ga.2.2.2.1
  have cb:=cl_good (m:=b) gb.2.2.2.1
  refine ⟨rfl,⟨by simp [stL],fun j hj=>?_⟩,rfl⟩
  have:j=0:=by simp [stL] at hj;exact hj
  subst this
  intro w hw
  show accM a ((clM a).getD a.2.2.2.1.toNat 0) w=accM b ((clM b).getD b.2.2.2.1.toNat 0) w
  rw [←ca.2.2 w hw,hal w hw]
  exact cb.2.2 w (by rw [←hk];exact hw)
 | i+1=>by
  have ih:=st_corr ga gb hk hal i
  have hS:=stL_inv ga i
  have hT:=stL_inv gb i
  rw [stL,stL]
  by_cases h:i<(stL a (clM a) i).2.1.length
  ·have h2:i<(stL b (clM b) i).2.1.length:=by rw [←ih.found.len];exact h
   rw [if_pos h,if_pos h2]
   rw [Nat.min_eq_left (Nat.le_of_lt h)] at hS
   rw [Nat.min_eq_left (Nat.le_of_lt h2)] at hT
   exact step_corr ga gb hk hS hT h ih
  ·have h2:¬i<(stL b (clM b) i).2.1.length:=by rw [←ih.found.len];exact h
   rw [if_neg h,if_neg h2]
   exact ih
theorem least_same {a b:Mach} (ga:GoodM a) (gb:GoodM b) (hk:a.2.1=b.2.1) (hal:Alike a b):leastF a=leastF b:=by
 have h:=st_corr ga gb hk hal 7
 rw [leastF_eq,leastF_eq]
 generalize stL a (clM a) 7=S at h
 generalize stL b (clM b) 7=T at h
 unfold mkL
 rw [h.out,h.rows,h.found.len,hk]
end Dec
namespace Dec
open Go Go.Proofs Rex Gly
theorem solveBack {m:Mach} (hm:Ok MachT m):VC11 m (fun b=>b=true):=by
 unfold VC11
 refine VC33_of hm (fun e he hno=>VC21_of hm ⟨fun _=>by simpa using he,fun hc=>?_⟩) (fun g l hl1 hl2 hok hlang=>VC21_of hm ⟨fun hc=>?_,fun _=>⟨fun hc=>?_,fun _=>?_⟩⟩)
 ·exact absurd ((chkM_zero m).1 (by simpa using hc)) hno
 ·rw [(chkM_zero m).2 g] at hc
  simp at hc
 ·simp only [Bool.or_eq_true,decide_eq_true_eq] at hc
  rcases hc with hc | hc
  ·simp at hc
  ·omega
 have good:¬(9:Int)<(l.length:Int)→Good m.2.1 l:=fun h9=>⟨⟨g.1.2.2.1,g.1.2.2.2⟩,⟨hl1,by omega⟩,hok⟩
 have long:∀ r:Mach×Int,(Good m.2.1 l→r.2=0∧SureOk m.2.1 l r.1)→(¬Good m.2.1 l→r.2≠0)→(((decide ((9:Int)<(l.length:Int)))=true→(!decide (r.2=(0:Int)))=true)∧((decide ((9:Int)<(l.length:Int)))=false→VC29 m (fun (ret40v:Mach×Int)=>gcall (α:=Bool) ((decide (r.2=(0:Int)))&&(decide (ret40v.2=(0:Int)))) (VC30 r.1 ret40v.1) false (fun (ret52v:Bool)=>(((decide (r.2=(0:Int)))&&(decide (ret40v.2=(0:Int))))&&ret52v)=true)))):=by
  intro r h1 h2
  refine ⟨fun hc=>?_,fun hc=>?_⟩
  ·simp only [decide_eq_true_eq] at hc
   have:=h2 fun hg=>by have:=hg.len;omega
   simpa using this
  ·simp only [decide_eq_false_iff_not] at hc
   obtain ⟨e0,hS⟩:=h1 (good hc)
   refine VC29_of hm (fun e he hno=>absurd g hno) fun _=>?_
   dsimp only
   have same:r.1=leastF m:=by
    rw [←hS.own]
    refine least_same hS.good g hS.sym fun v hv=>?_
    rw [hS.sym] at hv
    have a1:=hS.lang v hv
    have a2:=hlang v hv
    rw [hS.start]
    cases hx:accM r.1 0 v with
    | true=>exact (a2.1 (a1.1 hx)).symm
    | false =>
     cases hy:accM m m.2.2.2.1 v with
     | false=>rfl
     | true=>rw [a1.2 (a2.2 hy)] at hx;cases hx
   rw [e0]
   refine gcall_both (fun _=>VC30_of hS.good ?_) (fun hc2=>?_)
   ·rw [same];simp
   ·simp at hc2
 refine VC28_of (fun e he hno=>long _ (fun hg=>absurd hg hno) fun _=>he) (fun hg hb=>absurd (fun w hw=>(hlang w hw).symm) (hb m g rfl)) fun hg M hM=>long _ (fun _=>⟨rfl,hM⟩) fun h=>absurd hg h
end Dec
