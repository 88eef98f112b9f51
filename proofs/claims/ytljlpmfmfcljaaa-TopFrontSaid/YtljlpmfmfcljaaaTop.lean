/-
stand.Play answers each deed alone of what came before, and the law TopFront over plain data.
-/
import Derived.Test.YtljlpmfmfcljaaaExa
import Derived.Test.YtljlpmfmfcljaaaDecCp
set_option linter.unusedSimpArgs false
set_option linter.unusedVariables false
namespace Dec
open Go Go.Proofs Cfg
abbrev Deed:=Int×((Int×List Int)×(List Int×(Int×List Int)))
abbrev Told:=Int×(Int×List Int)
abbrev Ask:=List ((Int×List Int)×(Int×Int))
abbrev dd0:Deed:=((0:Int),(((0:Int),([]:List Int)),(([]:List Int),((0:Int),([]:List Int)))))
theorem VC54_big {sv:List Int} {K:List Int→Prop} (hl:sv.length*8≤140737488351232) (h:K sv):VC54 sv K:=by
 unfold VC54
 intro b hb
 refine ⟨fun e=>?_,fun _=>⟨by (first | unfold roomW | unfold roomN);simp only [List.length_nil];omega,by simpa using h⟩⟩
 rw [hb e] at h
 exact h
theorem VC42_of {sv:List Rl} {K:List Rl→Prop} (hl:sv.length≤100) (h:K sv):VC42 sv K:=by
 unfold VC42
 intro b hb
 refine ⟨fun e=>?_,fun _=>⟨by (first | unfold roomW | unfold roomN);simp only [List.length_nil];omega,by simpa using h⟩⟩
 rw [hb e] at h
 exact h
theorem VC15_of {a b:List Int} (hl:a.length≤1000) {K:Bool→Prop} (h:K (decide (a=b))):VC15 a b K:=by
 unfold VC15
 refine ⟨fun hne=>?_,fun heq=>?_⟩
 ·have:a≠b:=by
   intro e
   simp only [Bool.not_eq_true',decide_eq_false_iff_not] at hne
   exact hne (by rw [e])
  rwa [decide_eq_false this] at h
 ·have hlen:a.length=b.length:=by
   simp only [Bool.not_eq_false',decide_eq_true_eq] at heq
   omega
  refine loop_count a.length (fun i=>∀ j,j<i→a.getD j 0=b.getD j 0) (by intro j hj;omega) ?_
  intro i hi hP X hX
  unfold VC15_l1
  simp only [Int.toNat_natCast]
  refine ⟨fun hb=>?_,fun hb=>?_⟩
  ·simp only [decide_eq_true_eq] at hb
   refine ⟨⟨by omega,by omega⟩,⟨by omega,by omega⟩,fun hd=>?_,fun hs=>⟨by unfold InR;omega,hX (by omega) fun j hj=>?_⟩⟩
   ·simp only [Bool.not_eq_true',decide_eq_false_iff_not] at hd
    have:a≠b:=fun e=>hd (by rw [e])
    rwa [decide_eq_false this] at h
   ·simp only [Bool.not_eq_false',decide_eq_true_eq] at hs
    by_cases e:j<i
    ·exact hP j e
    ·have:j=i:=by omega
     subst this
     exact hs
  ·simp only [decide_eq_false_iff_not] at hb
   unfold VC15_k1
   have:a=b:=ext_getD 0 hlen fun j hj=>hP j (by omega)
   rwa [decide_eq_true this] at h
def SInv (k n:Int) (sv:List Rl):Prop:=GoodG (k,(n,((0:Int),sv)))∧Prop1 (k,(n,((0:Int),sv)))
def StepTo (k n:Int) (d:Deed) (sv:List Rl) (kn:Ask) (t:Told) (sv':List Rl) (kn':Ask):Prop :=
 ∀ (script:List Deed) (v:Nat) (out:List Told) (K:List Told×Int→Prop) (X:Int×Ask×List Told×List Rl→Prop),v<script.length→script.length≤40→script.getD v dd0=d→out.length≤40→X ((v:Int)+1,kn',out++[t],sv')→VC13_l1 k n script K (v:Int) kn out sv X
theorem sinv_take {k n:Int} {sv:List Rl} (h:SInv k n sv) (m:Nat):SInv k n (sv.take m):=by
 obtain ⟨hg,hp⟩:=h
 have hm:∀ r,r∈sv.take m→r∈sv:=fun r hr=>List.mem_of_mem_take hr
 refine ⟨⟨hg.k,hg.n,?_,fun r hr=>hg.short r (hm r hr),hg.start,fun r hr=>hg.left r (hm r hr),fun r hr=>hg.right r (hm r hr)⟩,fun r hr=>hp r (hm r hr)⟩
 have:=hg.few
 dsimp only at this ⊢
 rw [List.length_take]
 omega
theorem step_det {k n:Int} {sv:List Rl} (hi:SInv k n sv) (kn:Ask) (d:Deed) (hd:d.2.1.2.length*8≤140737488351232):∃ t sv' kn',SInv k n sv'∧t.2.2.length≤1000∧StepTo k n d sv kn t sv' kn':=by
 obtain ⟨hg,hp⟩:=hi
 have hfew:sv.length≤10:=hg.few
 have hgo:∀ (t:Told) (sv':List Rl) (kn':Ask),(∀ (v:Nat) (out:List Told) (X:Int×Ask×List Told×List Rl→Prop),v<40→out.length≤40→X ((v:Int)+1,kn',out++[t],sv') →
   (((decide (d.1=(1:Int)))=true→VC42 sv (fun (ret16v:LR)=>VC54 (d.2.1.2) (fun (ret21v:LI)=>(roomW 32 (ret16v.length+[(d.2.1.1,ret21v)].length)∧VC25 (k,(n,((0:Int),(ret16v++[(d.2.1.1,ret21v)])))) (fun (ret27v:Int)=>(((!decide (ret27v=(0:Int)))=true→VC13_k3 (v:Int) out X ret27v (0:Int) sv kn)∧((!decide (ret27v=(0:Int)))=false→VC55 (k,(n,((0:Int),(ret16v++[(d.2.1.1,ret21v)])))) (fun (ret33v:Bool)=>(((!ret33v)=true→VC13_k3 (v:Int) out X (3:Int) (0:Int) sv kn)∧((!ret33v)=false→(InR (((ret16v++[(d.2.1.1,ret21v)]).length:Int)-(1:Int))∧VC13_k3 (v:Int) out X (0:Int) (((ret16v++[(d.2.1.1,ret21v)]).length:Int)-(1:Int)) (ret16v++[(d.2.1.1,ret21v)]) ([]:List ((Int×LI)×(Int×Int))))))))))))))
   ∧ ((decide (d.1=(1:Int)))=false→(((decide (d.1=(2:Int)))=true→(((decide ((sv.length:Int)=(0:Int)))=true→VC13_k2 (v:Int) out X sv kn (5:Int) (0:Int) ([]:List Int))∧((decide ((sv.length:Int)=(0:Int)))=false→((InR ((sv.length:Int)-(1:Int))∧(0≤((sv.length:Int)-(1:Int))∧((sv.length:Int)-(1:Int))≤(sv.length:Int))∧VC42 (sv.take (((sv.length:Int)-(1:Int))).toNat) (fun (ret41v:LR)=>VC13_k4 (v:Int) out X ret41v))∧(InR ((sv.length:Int)-(1:Int))∧((0≤((sv.length:Int)-(1:Int))∧((sv.length:Int)-(1:Int))≤(sv.length:Int))∧VC42 (sv.take (((sv.length:Int)-(1:Int))).toNat) (fun (ret41v:LR)=>VC13_k4 (v:Int) out X ret41v)))))))
   ∧ ((decide (d.1=(2:Int)))=false→(((decide (d.1=(3:Int)))=true→(((decide ((12:Int)<((d.2.2.1).length:Int)))=true→VC13_k5 (v:Int) out sv X (1:Int) (0:Int) kn)∧((decide ((12:Int)<((d.2.2.1).length:Int)))=false→(((!(mget kn (((d.2.2.1).length:Int),(a12 (d.2.2.1)))).isSome)=true→VC56 (k,(n,((0:Int),sv))) (d.2.2.1) (fun (ret36v:Int×Int)=>VC13_k6 (v:Int) out sv X ret36v.1 ret36v.2 (mset kn (((d.2.2.1).length:Int),(a12 (d.2.2.1))) ret36v)))∧((!(mget kn (((d.2.2.1).length:Int),(a12 (d.2.2.1)))).isSome)=false→VC13_k6 (v:Int) out sv X (((mget kn (((d.2.2.1).length:Int),(a12 (d.2.2.1)))).getD ((0:Int),(0:Int))).1) (((mget kn (((d.2.2.1).length:Int),(a12 (d.2.2.1)))).getD ((0:Int),(0:Int))).2) kn)))))
   ∧ ((decide (d.1=(3:Int)))=false→(((decide (d.1=(4:Int)))=true→VC44 (k,(n,((0:Int),sv))) (d.2.2.1) (d.2.2.2.1) (fun (ret61v:LI×Int)=>VC13_k2 (v:Int) out X sv kn ret61v.2 (0:Int) ret61v.1))
   ∧ ((decide (d.1=(4:Int)))=false→(((decide (d.1=(5:Int)))=true→VC45 (k,(n,((0:Int),sv))) (d.2.2.1) (d.2.2.2.2) (fun (ret78v:Int×Int)=>VC13_k2 (v:Int) out X sv kn ret78v.2 ret78v.1 ([]:List Int)))∧((decide (d.1=(5:Int)))=false→VC13_k2 (v:Int) out X sv kn (6:Int) (0:Int) ([]:List Int)))))))))))) →
   StepTo k n d sv kn t sv' kn':=by
  intro t sv' kn' h script v out K X hv hl hsd ho hX
  unfold VC13_l1
  simp only [Int.toNat_natCast]
  have hsd':script.getD v ((0:Int),(((0:Int),([]:LI)),(([]:LI),((0:Int),([]:LI)))))=d:=hsd
  refine ⟨fun _=>⟨⟨by omega,by omega⟩,?_⟩,fun hb=>(by simp only [decide_eq_false_iff_not] at hb;omega)⟩
  simp only [hsd']
  exact h v out X (by omega) ho hX
 have hk2:∀ (v:Nat) (out:List Told) (X:Int×Ask×List Told×List Rl→Prop) (sv':List Rl) (kn':Ask) (c m:Int) (st:List Int),v<40→out.length≤40→X ((v:Int)+1,kn',out++[(c,(m,st))],sv')→VC13_k2 (v:Int) out X sv' kn' c m st:=by
  intro v out X sv' kn' c m st hv ho hX
  unfold VC13_k2
  exact ⟨by (first | unfold roomW | unfold roomN);simp only [List.length_cons,List.length_nil];omega,by unfold InR;omega,hX⟩
 by_cases h1:d.1=1
 ·obtain ⟨e,he0,he⟩:=VC25_ex (k,(n,((0:Int),sv++[(d.2.1.1,d.2.1.2)])))
  have hpre:∀ (P:List Rl→List Int→Prop),P sv d.2.1.2→VC42 sv (fun ret16v=>VC54 d.2.1.2 (fun ret21v=>P ret16v ret21v)):=fun P h=>VC42_of (by omega) (VC54_big hd h)
  have hrest:∀ {A:Prop},(decide (d.1=(1:Int)))=false→A:=fun h=>by simp [h1] at h
  by_cases hgood:GoodG (k,(n,((0:Int),sv++[(d.2.1.1,d.2.1.2)])))
  ·by_cases hprop:Prop1 (k,(n,((0:Int),sv++[(d.2.1.1,d.2.1.2)])))
   ·refine ⟨(0,(((sv++[(d.2.1.1,d.2.1.2)]).length:Int)-1,[])),sv++[(d.2.1.1,d.2.1.2)],[],⟨hgood,hprop⟩,by simp,hgo _ _ _ fun v out X hv ho hX=>⟨fun _=>hpre _ ⟨?_,he _ ⟨fun h=>?_,fun _=>VC55_of hgood fun b hb=>?_⟩⟩,hrest⟩⟩
    ·(first | unfold roomW | unfold roomN);simp only [List.length_cons,List.length_nil];omega
    ·rw [he0.2 hgood] at h;simp at h
    ·rw [hb.2 hprop]
     refine ⟨fun h=>(by cases h),fun _=>⟨?_,?_⟩⟩
     ·unfold InR;simp only [List.length_append,List.length_cons,List.length_nil];omega
     ·unfold VC13_k3
      exact hk2 v out X _ _ _ _ _ hv ho hX
   ·refine ⟨(3,(0,[])),sv,kn,⟨hg,hp⟩,by simp,hgo _ _ _ fun v out X hv ho hX=>⟨fun _=>hpre _ ⟨?_,he _ ⟨fun h=>?_,fun _=>VC55_of hgood fun b hb=>?_⟩⟩,hrest⟩⟩
    ·(first | unfold roomW | unfold roomN);simp only [List.length_cons,List.length_nil];omega
    ·rw [he0.2 hgood] at h;simp at h
    ·cases b with
     | true=>exact absurd (hb.1 rfl) hprop
     | false =>
      refine ⟨fun _=>?_,fun h=>(by cases h)⟩
      unfold VC13_k3
      exact hk2 v out X _ _ _ _ _ hv ho hX
  ·refine ⟨(e,(0,[])),sv,kn,⟨hg,hp⟩,by simp,hgo _ _ _ fun v out X hv ho hX=>⟨fun _=>hpre _ ⟨?_,he _ ⟨fun _=>?_,fun h=>?_⟩⟩,hrest⟩⟩
   ·(first | unfold roomW | unfold roomN);simp only [List.length_cons,List.length_nil];omega
   ·unfold VC13_k3
    exact hk2 v out X _ _ _ _ _ hv ho hX
   ·exfalso
    simp at h
    exact hgood (he0.1 h)
 have d1:∀ {A:Prop},(decide (d.1=(1:Int)))=true→A:=fun h=>absurd (by simpa using h) h1
 by_cases h2:d.1=2
 ·have hrest:∀ {A:Prop},(decide (d.1=(2:Int)))=false→A:=fun h=>by simp [h2] at h
  by_cases h0:sv.length=0
  ·refine ⟨(5,(0,[])),sv,kn,⟨hg,hp⟩,by simp,hgo _ _ _ fun v out X hv ho hX=>⟨d1,fun _=>⟨fun _=>⟨fun _=>hk2 v out X _ _ _ _ _ hv ho hX,fun h=>?_⟩,hrest⟩⟩⟩
   simp only [decide_eq_false_iff_not] at h
   omega
  ·have hlen:(((sv.length:Int)-1)).toNat=sv.length-1:=by omega
   refine ⟨(0,(0,[])),sv.take (sv.length-1),[],sinv_take ⟨hg,hp⟩ _,by simp,hgo _ _ _ fun v out X hv ho hX=>⟨d1,fun _=>⟨fun _=>⟨fun h=>?_,fun _=>?_⟩,hrest⟩⟩⟩
   ·simp only [decide_eq_true_eq] at h
    omega
   ·rw [hlen]
    have hk4:VC42 (sv.take (sv.length-1)) (fun (ret41v:LR)=>VC13_k4 (v:Int) out X ret41v):=by
     refine VC42_of (by rw [List.length_take];omega) ?_
     unfold VC13_k4
     exact hk2 v out X _ _ _ _ _ hv ho hX
    exact ⟨⟨by unfold InR;omega,⟨by omega,by omega⟩,hk4⟩,by unfold InR;omega,⟨by omega,by omega⟩,hk4⟩
 have d2:∀ {A:Prop},(decide (d.1=(2:Int)))=true→A:=fun h=>absurd (by simpa using h) h2
 by_cases h3:d.1=3
 ·have hrest:∀ {A:Prop},(decide (d.1=(3:Int)))=false→A:=fun h=>by simp [h3] at h
  by_cases hl:12<d.2.2.1.length
  ·refine ⟨(1,(0,[])),sv,kn,⟨hg,hp⟩,by simp,hgo _ _ _ fun v out X hv ho hX=>⟨d1,fun _=>⟨d2,fun _=>⟨fun _=>⟨fun _=>?_,fun h=>?_⟩,hrest⟩⟩⟩⟩
   ·unfold VC13_k5
    exact hk2 v out X _ _ _ _ _ hv ho hX
   ·simp only [decide_eq_false_iff_not] at h
    omega
  ·have dl:∀ {A:Prop},(decide ((12:Int)<((d.2.2.1).length:Int)))=true→A:=fun h=>by simp only [decide_eq_true_eq] at h;omega
   cases hm:mget kn (((d.2.2.1).length:Int),(a12 (d.2.2.1))) with
   | none =>
    obtain ⟨r,hr⟩:=VC56_ex hg hp d.2.2.1
    refine ⟨(r.2,(r.1,[])),sv,mset kn (((d.2.2.1).length:Int),(a12 (d.2.2.1))) r,⟨hg,hp⟩,by simp,hgo _ _ _ fun v out X hv ho hX=>⟨d1,fun _=>⟨d2,fun _=>⟨fun _=>⟨dl,fun _=>⟨fun _=>hr _ ?_,fun h=>?_⟩⟩,hrest⟩⟩⟩⟩
    ·unfold VC13_k6 VC13_k5
     exact hk2 v out X _ _ _ _ _ hv ho hX
    ·rw [hm] at h;cases h
   | some r =>
    refine ⟨(r.2,(r.1,[])),sv,kn,⟨hg,hp⟩,by simp,hgo _ _ _ fun v out X hv ho hX=>⟨d1,fun _=>⟨d2,fun _=>⟨fun _=>⟨dl,fun _=>⟨fun h=>?_,fun _=>?_⟩⟩,hrest⟩⟩⟩⟩
    ·rw [hm] at h;cases h
    ·rw [hm]
     unfold VC13_k6 VC13_k5
     exact hk2 v out X _ _ _ _ _ hv ho hX
 have d3:∀ {A:Prop},(decide (d.1=(3:Int)))=true→A:=fun h=>absurd (by simpa using h) h3
 by_cases h4:d.1=4
 ·have hrest:∀ {A:Prop},(decide (d.1=(4:Int)))=false→A:=fun h=>by simp [h4] at h
  obtain ⟨r,hr1,hr⟩:=VC44_ex hg hp d.2.2.1 d.2.2.2.1
  exact ⟨(r.2,(0,r.1)),sv,kn,⟨hg,hp⟩,by dsimp only;omega,hgo _ _ _ fun v out X hv ho hX=>⟨d1,fun _=>⟨d2,fun _=>⟨d3,fun _=>⟨fun _=>hr _ (hk2 v out X _ _ _ _ _ hv ho hX),hrest⟩⟩⟩⟩⟩
 have d4:∀ {A:Prop},(decide (d.1=(4:Int)))=true→A:=fun h=>absurd (by simpa using h) h4
 by_cases h5:d.1=5
 ·have hrest:∀ {A:Prop},(decide (d.1=(5:Int)))=false→A:=fun h=>by simp [h5] at h
  obtain ⟨r,hr⟩:=VC45_ex hg hp d.2.2.1 d.2.2.2.2
  exact ⟨(r.2,(r.1,[])),sv,kn,⟨hg,hp⟩,by simp,hgo _ _ _ fun v out X hv ho hX=>⟨d1,fun _=>⟨d2,fun _=>⟨d3,fun _=>⟨d4,fun _=>⟨fun _=>hr _ (hk2 v out X _ _ _ _ _ hv ho hX),hrest⟩⟩⟩⟩⟩⟩
 have d5:∀ {A:Prop},(decide (d.1=(5:Int)))=true→A:=fun h=>absurd (by simpa using h) h5
 exact ⟨(6,(0,[])),sv,kn,⟨hg,hp⟩,by simp,hgo _ _ _ fun v out X hv ho hX=>⟨d1,fun _=>⟨d2,fun _=>⟨d3,fun _=>⟨d4,fun _=>⟨d5,fun _=>hk2 v out X _ _ _ _ _ hv ho hX⟩⟩⟩⟩⟩⟩
theorem run_det {k n:Int} : ∀ (ds:List Deed) (sv:List Rl) (kn:Ask),SInv k n sv→(∀ d∈ds,d.2.1.2.length*8≤140737488351232)→∃ outs:List Told,outs.length=ds.length∧(∀ t∈outs,t.2.2.length≤1000) ∧
  ∀ i,i≤ds.length→∀ (script:List Deed) (v:Nat) (out:List Told) (K:List Told×Int→Prop) (X:Int×Ask×List Told×List Rl→Prop),(∀ s:Int×Ask×List Told×List Rl,VC13_l1 k n script K s.1 s.2.1 s.2.2.1 s.2.2.2 X→X s)→script.length≤40→v≤script.length→out.length≤v→script.drop v=ds.take i→K (out++outs.take i,0)→X ((v:Int),kn,out,sv)
 | [],sv,kn,_,_=>by
  refine ⟨[],rfl,by simp,fun i _ script v out K X hX hl hv ho hdrop hK=>hX _ ?_⟩
  dsimp only
  unfold VC13_l1
  rw [List.take_nil] at hdrop
  have hle:=List.drop_eq_nil_iff.1 hdrop
  refine ⟨fun h=>(by simp only [decide_eq_true_eq] at h;omega),fun _=>?_⟩
  unfold VC13_k1
  simpa using hK
 | d::ds,sv,kn,hi,hd=>by
  obtain ⟨t,sv',kn',hi',ht,hstep⟩:=step_det hi kn d (hd d List.mem_cons_self)
  obtain ⟨outs,ho1,ho2,ho3⟩:=run_det ds sv' kn' hi' fun x hx=>hd x (List.mem_cons_of_mem _ hx)
  refine ⟨t::outs,by simp [ho1],fun x hx=>?_,fun i hi2 script v out K X hX hl hv ho hdrop hK=>hX _ ?_⟩
  ·rcases List.mem_cons.1 hx with e | e
   ·subst e;exact ht
   ·exact ho2 x e
  ·cases i with
   | zero =>
    dsimp only
    unfold VC13_l1
    rw [List.take_zero] at hdrop
    have hle:=List.drop_eq_nil_iff.1 hdrop
    refine ⟨fun h=>(by simp only [decide_eq_true_eq] at h;omega),fun _=>?_⟩
    unfold VC13_k1
    simpa using hK
   | succ i =>
    rw [List.take_succ_cons] at hdrop hK
    obtain ⟨hvl,hget,hdrop'⟩:=at_drop hdrop dd0
    refine hstep script v out K X hvl hl hget (by omega) ?_
    have:=ho3 i (by simpa using hi2) script (v+1) (out++[t]) K X hX hl (by omega) (by simp;omega) hdrop' (by rw [List.append_assoc];exact hK)
    rw [show (((v+1:Nat):Int))=(v:Int)+1 by omega] at this
    exact this
theorem play_det (k n:Int) (script:List Deed) (hd:∀ d∈script,d.2.1.2.length*8≤140737488351232):(∃ e:Int,e≠0∧∀ K:List Told×Int→Prop,K ([],e)→VC13 k n script K) ∨
  ∃ outs:List Told,outs.length=script.length∧script.length≤40∧(∀ t∈outs,t.2.2.length≤1000)∧∀ i,i≤script.length→∀ K:List Told×Int→Prop,K (outs.take i,0)→VC13 k n (script.take i) K:=by
 obtain ⟨e,he0,he⟩:=VC25_ex (k,(n,((0:Int),([]:List Rl))))
 by_cases hg:GoodG (k,(n,((0:Int),([]:List Rl))))
 ·by_cases hl:script.length≤40
  ·right
   obtain ⟨outs,h1,h2,h3⟩:=run_det (k:=k) (n:=n) script [] [] ⟨hg,fun r hr=>(by cases hr)⟩ hd
   refine ⟨outs,h1,hl,h2,fun i hi K hK=>?_⟩
   unfold VC13
   refine he _ ⟨fun h=>?_,fun _=>⟨fun h=>?_,fun _=>?_⟩⟩
   ·rw [he0.2 hg] at h;simp at h
   ·simp only [decide_eq_true_eq,List.length_take] at h
    omega
   ·intro X hX
    exact h3 i hi (script.take i) 0 [] K X hX (by rw [List.length_take];omega) (by omega) (by simp) (by simp) (by simpa using hK)
  ·left
   refine ⟨1,by decide,fun K hK=>?_⟩
   unfold VC13
   refine he _ ⟨fun h=>?_,fun _=>⟨fun _=>hK,fun h=>?_⟩⟩
   ·rw [he0.2 hg] at h;simp at h
   ·simp only [decide_eq_false_iff_not] at h
    omega
 ·left
  have hne:e≠0:=fun h=>hg (he0.1 h)
  refine ⟨e,hne,fun K hK=>?_⟩
  unfold VC13
  refine he _ ⟨fun _=>hK,fun h=>?_⟩
  simp at h
  exact absurd h hne
theorem topFront (k n:Int) (script:List Deed) (at_:Int) (hat:0≤at_) (hlen:script.length*96≤140737488351232) (hd:∀ d∈script,d.2.1.2.length*8≤140737488351232):VC6 k n script at_ (fun b=>b=true):=by
 unfold VC6
 rcases play_det k n script hd with ⟨e,he,h⟩ | ⟨outs,h1,h40,h2,h3⟩
 ·refine h _ ⟨fun _=>by simp,fun h0=>?_⟩
  simp at h0
  exact absurd h0 he
 ·have hfull:=h3 script.length (Nat.le_refl _)
  rw [List.take_length,List.take_of_length_le (by omega)] at hfull
  refine hfull _ ⟨fun h=>(by simp at h),fun _=>⟨by unfold InR;omega,⟨hat,by omega⟩,?_⟩⟩
  have hm0:0≤at_ % ((script.length:Int)+1):=Int.emod_nonneg _ (by omega)
  have hm1:at_ % ((script.length:Int)+1)<(script.length:Int)+1:=Int.emod_lt_of_pos _ (by omega)
  obtain ⟨i,hi⟩:=Int.eq_ofNat_of_zero_le hm0
  rw [hi] at hm1 ⊢
  rw [Int.toNat_natCast]
  have hil:i≤script.length:=by omega
  refine ⟨⟨by omega,by omega⟩,h3 i hil _ ⟨fun hbad=>?_,fun _=>?_⟩⟩
  ·exfalso
   simp only [h1,List.length_take,decide_true,Bool.not_true,Bool.false_or,Bool.not_eq_true',decide_eq_false_iff_not] at hbad
   omega
  ·refine loop_count i (fun _=>True) trivial ?_
   intro j hj _ X hX
   unfold VC6_l1
   rw [hi]
   simp only [Int.toNat_natCast]
   refine ⟨fun hb=>?_,fun hb=>?_⟩
   ·simp only [decide_eq_true_eq] at hb
    have hjo:j<outs.length:=by omega
    have hjt:j<(outs.take i).length:=by rw [List.length_take];omega
    have e1:(outs.take i).getD j ((0:Int),((0:Int),([]:LI)))=outs.getD j ((0:Int),((0:Int),([]:LI))):=by
     rw [getD_lt _ hjt,getD_lt _ hjo,List.getElem_take]
    rw [e1]
    have hlt:=h2 _ (getD_mem (d:=((0:Int),((0:Int),([]:LI)))) hjo)
    refine ⟨⟨by omega,by omega⟩,⟨by omega,by omega⟩,?_⟩
    unfold VC16
    refine gcall_both (fun _=>VC15_of hlt ?_) (fun h=>(by simp at h))
    simp only [decide_true,Bool.and_self,Bool.not_true]
    exact ⟨fun h=>(by cases h),fun _=>⟨by unfold InR;omega,hX (by omega) trivial⟩⟩
   ·unfold VC6_k1
    rfl
theorem deeds_sz {l:List Deed} (h:SzOk (.sl (.pr (.int .i64) (.pr (.pr (.int .i64) (.sl (.int .i64))) (.pr (.sl (.int .i64)) (.pr (.int .i64) (.sl (.int .i64))))))) l):l.length*96≤140737488351232∧∀ d∈l,d.2.1.2.length*8≤140737488351232 :=
 ⟨h.1,fun d hd=>(h.2 d hd).2.1.2.1⟩
end Dec
