/-
stand.Play tells how many trees a word has, a tree's steps and place (plain). The law TopTrees over plain data.
-/
import Derived.Test.YtljlpmfmfcljaaaExa
import Derived.Test.YtljlpmfmfcljaaaDecCp
set_option linter.unusedSimpArgs false
set_option linter.unusedVariables false
namespace Dec
open Go Go.Proofs Cfg
abbrev Deed:=Int×((Int×List Int)×(List Int×(Int×List Int)))
abbrev Told:=Int×(Int×List Int)
abbrev Ask:=List ((Int×List Int)×(Int×Int))
theorem VC54_big {sv:List Int} {K:List Int→Prop} (hl:sv.length*8≤140737488351232) (h:K sv):VC54 sv K:=by
 unfold VC54
 intro b hb
 refine ⟨fun e=>?_,fun _=>⟨by (first | unfold roomW | unfold roomN);simp only [List.length_nil];omega,by simpa using h⟩⟩
 rw [hb e] at h
 exact h
theorem VC42_of {sv:List Rl} {K:List Rl→Prop} (hl:sv.length≤100) (h:K sv):VC42 sv K:=by
 unfold VC42
 intro b hb
 refine ⟨fun e=>?_,fun _=>⟨by (first | unfold roomW | unfold roomN);simp only [List.length_nil];omega,by simpa using h⟩⟩
 rw [hb e] at h
 exact h
theorem VC15_of {a b:List Int} (hl:a.length≤1000) {K:Bool→Prop} (h:K (decide (a=b))):VC15 a b K:=by
 unfold VC15
 refine ⟨fun hne=>?_,fun heq=>?_⟩
 ·have:a≠b:=by
   intro e
   simp only [Bool.not_eq_true',decide_eq_false_iff_not] at hne
   exact hne (by rw [e])
  rwa [decide_eq_false this] at h
 ·have hlen:a.length=b.length:=by
   simp only [Bool.not_eq_false',decide_eq_true_eq] at heq
   omega
  refine loop_count a.length (fun i=>∀ j,j<i→a.getD j 0=b.getD j 0) (by intro j hj;omega) ?_
  intro i hi hP X hX
  unfold VC15_l1
  simp only [Int.toNat_natCast]
  refine ⟨fun hb=>?_,fun hb=>?_⟩
  ·simp only [decide_eq_true_eq] at hb
   refine ⟨⟨by omega,by omega⟩,⟨by omega,by omega⟩,fun hd=>?_,fun hs=>⟨by unfold InR;omega,hX (by omega) fun j hj=>?_⟩⟩
   ·simp only [Bool.not_eq_true',decide_eq_false_iff_not] at hd
    have:a≠b:=fun e=>hd (by rw [e])
    rwa [decide_eq_false this] at h
   ·simp only [Bool.not_eq_false',decide_eq_true_eq] at hs
    by_cases e:j<i
    ·exact hP j e
    ·have:j=i:=by omega
     subst this
     exact hs
  ·simp only [decide_eq_false_iff_not] at hb
   unfold VC15_k1
   have:a=b:=ext_getD 0 hlen fun j hj=>hP j (by omega)
   rwa [decide_eq_true this] at h
abbrev GS (k n:Int) (sv:List Rl):Gr:=(k,(n,((0:Int),sv)))
def SInv (k n:Int) (sv:List Rl):Prop:=GoodG (GS k n sv)∧Prop1 (GS k n sv)
open Classical in
noncomputable def werr (k:Int) (w:List Int):Int:=if GoodW k w then 0 else if 12<w.length then 1 else 2
open Classical in
noncomputable def ansM (g:Gr) (w:List Int):Int×Int:=if GoodW g.1 w then (if 1099511627776<(cntW g w:Int) then (0,1) else ((cntW g w:Int),0)) else (0,werr g.1 w)
open Classical in
noncomputable def ansP (g:Gr) (w:List Int) (i:Int):List Int×Int :=
 if GoodW g.1 w then (if 1099511627776<(cntW g w:Int) then ([],1) else if 0≤i∧i<(cntW g w:Int) then ((SG g w (g.1+g.2.2.1) 0 w.length).getD i.toNat [],0) else ([],5)) else ([],werr g.1 w)
theorem VC66_ans {g:Gr} (hg:GoodG g) (w:List Int) {K:Int→Prop} (h:K (werr g.1 w)):VC66 g w K:=by
 unfold VC66
 refine VC25_of (fun _ _ h=>absurd hg h) fun _=>⟨fun h=>(by simp at h),fun _=>?_⟩
 unfold werr at h
 split at h
 ·rename_i hw
  exact VC21_of hg.k (fun e _ h=>absurd hw h) fun _=>h
 ·rename_i hw
  unfold VC21
  split at h
  ·rename_i hl
   exact ⟨fun _=>h,fun h=>(by simp only [decide_eq_false_iff_not] at h;omega)⟩
  ·rename_i hl
   refine ⟨fun h=>(by simp only [decide_eq_true_eq] at h;omega),fun _=>?_⟩
   have hk:=hg.k
   refine VC35_of (fun s=>!(decide (0≤s)&&decide (s≤g.1-1))) (by omega) (fun x _ K' hK'=>⟨⟨by omega,by omega⟩,hK'⟩) ⟨fun _=>h,fun hs=>?_⟩
   refine absurd ⟨by omega,fun s hm=>?_⟩ hw
   have:=List.any_eq_false.1 hs s hm
   simp only [Bool.not_eq_true',Bool.not_eq_false,Bool.and_eq_true,decide_eq_true_eq] at this
   omega
theorem werr_ne {k:Int} {w:List Int} (h:¬GoodW k w):werr k w≠0:=by
 unfold werr
 rw [if_neg h]
 split <;> decide
theorem VC56_ans {g:Gr} (hg:GoodG g) (hp:Prop1 g) (w:List Int) {K:Int×Int→Prop} (h:K (ansM g w)):VC56 g w K:=by
 unfold ansM at h
 split at h
 ·rename_i hw
  split at h
  ·rename_i hb
   exact VC56_all hg hw hp (fun _=>h) (fun h=>absurd hb (by omega))
  ·rename_i hb
   exact VC56_all hg hw hp (fun h=>absurd h hb) (fun _=>h)
 ·rename_i hw
  unfold VC56
  refine VC66_ans hg w ⟨fun _=>h,fun h0=>?_⟩
  simp at h0
  exact absurd h0 (werr_ne hw)
theorem VC44_ans {g:Gr} (hg:GoodG g) (hp:Prop1 g) (w:List Int) (i:Int) {K:List Int×Int→Prop} (h:K (ansP g w i)):VC44 g w i K:=by
 unfold ansP at h
 split at h
 ·rename_i hw
  split at h
  ·rename_i hb
   exact VC44_all hg hw hp (fun _=>h) (fun h=>absurd hb (by omega)) (fun h=>absurd hb (by omega))
  ·rename_i hb
   split at h
   ·rename_i hi
    exact VC44_all hg hw hp (fun h=>absurd h hb) (fun _ h=>absurd hi h) (fun _ _ _=>h)
   ·rename_i hi
    exact VC44_all hg hw hp (fun h=>absurd h hb) (fun _ _=>h) (fun _ h h'=>absurd ⟨h,h'⟩ hi)
 ·rename_i hw
  unfold VC44
  refine VC66_ans hg w ⟨fun _=>?_,fun h0=>?_⟩
  ·unfold VC44_k1
   exact ⟨fun _=>h,fun h0=>(by simp at h0;exact absurd h0 (werr_ne hw))⟩
  ·simp at h0
   exact absurd h0 (werr_ne hw)
theorem ansP_len {g:Gr} (hp:Prop1 g) (w:List Int) (i:Int):(ansP g w i).1.length≤24:=by
 unfold ansP
 split
 ·rename_i hw
  split
  ·simp
  ·split
   ·rename_i hi
    have hil:i.toNat<(SG g w (g.1+g.2.2.1) 0 w.length).length:=by unfold cntW cntS at hi;omega
    have hri:(SG g w (g.1+g.2.2.1) 0 w.length).getD i.toNat []∈SG g w (g.1+g.2.2.1) 0 w.length:=getD_mem hil
    have:=sgn_steps hp _ _ _ _ _ hri
    have:=hw.1
    dsimp only
    omega
   ·simp
 ·simp
theorem VC45_at {g:Gr} {w:List Int} (hg:GoodG g) (hw:GoodW g.1 w) (hp:Prop1 g) (hb:¬1099511627776<(cntW g w:Int)) {p:Nat} (hp1:p<cntW g w) {st:List Int} (hst:(SG g w (g.1+g.2.2.1) 0 w.length).getD p []=st) {K:Int×Int→Prop} (h:K ((p:Int),0)):VC45 g w st K:=by
 have hmem:st∈SG g w (g.1+g.2.2.1) 0 w.length:=by rw [←hst];exact getD_mem hp1
 have hlen:=sgn_steps hp _ _ _ _ _ hmem
 have hw12:=hw.1
 obtain ⟨t,h1,h2,h3⟩:=mem_grow (w.length+1) 62 (g.1+g.2.2.1) 0 w.length st (by omega) (Nat.zero_le _) (Nat.le_refl _) hmem
 have h1':=h1 []
 rw [List.append_nil] at h1'
 have hword:t.word=w:=At.full h3 (by omega)
 refine VC45_all hg hw hp (fun h=>absurd h hb) (fun _ h=>absurd h (by omega)) (fun _ _ h=>absurd ⟨t,h1',hword⟩ h) (fun q hq1 hq2 _ _ _=>?_)
 have:q=p:=sg_inj hq1 hp1 (by rw [hq2,hst])
 rw [this]
 exact h
def KnG (g:Gr) (kn:Ask):Prop:=∀ w:List Int,w.length≤12→∀ r,mget kn ((w.length:Int),a12 w)=some r→r=ansM g w
theorem a12_getD (x:List Int):∀ j,j<12→(a12 x).getD j 0=x.getD j 0
 | 0,_=>rfl | 1,_=>rfl | 2,_=>rfl | 3,_=>rfl | 4,_=>rfl | 5,_=>rfl | 6,_=>rfl | 7,_=>rfl | 8,_=>rfl | 9,_=>rfl | 10,_=>rfl | 11,_=>rfl
 | j+12,h=>by omega
theorem a12_inj {x y:List Int} (hx:x.length≤12) (hl:x.length=y.length) (h:a12 x=a12 y):x=y :=
 ext_getD 0 hl fun j hj=>by rw [←a12_getD x j (by omega),h,a12_getD y j (by omega)]
theorem knG_nil {g:Gr} : KnG g []:=by intro w _ r h;cases h
theorem knG_mset {g:Gr} {kn:Ask} (h:KnG g kn) {w:List Int} (hw:w.length≤12):KnG g (mset kn ((w.length:Int),a12 w) (ansM g w)):=by
 intro w' hw' r hr
 rw [mget_mset] at hr
 split at hr
 ·rename_i e
  injection e with e1 e2
  have:=a12_inj (x:=w') hw' (by omega) e2
  rw [this]
  cases hr
  rfl
 ·exact h w' hw' r hr
def StepTo (k n:Int) (d:Deed) (sv:List Rl) (kn:Ask) (t:Told) (sv':List Rl) (kn':Ask):Prop :=
 ∀ (script:List Deed) (v:Nat) (out:List Told) (K:List Told×Int→Prop) (X:Int×Ask×List Told×List Rl→Prop),v<script.length→script.length≤40→script.getD v zD=d→out.length≤40→X ((v:Int)+1,kn',out++[t],sv')→VCc13_l1 script k n K (v:Int) kn out sv X
def Says (g:Gr) (d:Deed) (t:Told):Prop :=
 (d.1=3→t=((ansM g d.2.2.1).2,((ansM g d.2.2.1).1,[])))∧(d.1=4→t=((ansP g d.2.2.1 d.2.2.2.1).2,(0,(ansP g d.2.2.1 d.2.2.2.1).1))) ∧
 (d.1=5→GoodW g.1 d.2.2.1→¬1099511627776<(cntW g d.2.2.1:Int)→∀ p:Nat,p<cntW g d.2.2.1→(SG g d.2.2.1 (g.1+g.2.2.1) 0 d.2.2.1.length).getD p []=d.2.2.2.2→t=(0,((p:Int),[])))
theorem sinv_take {k n:Int} {sv:List Rl} (h:SInv k n sv) (m:Nat):SInv k n (sv.take m):=by
 obtain ⟨hg,hp⟩:=h
 have hm:∀ r,r∈sv.take m→r∈sv:=fun r hr=>List.mem_of_mem_take hr
 refine ⟨⟨hg.k,hg.n,?_,fun r hr=>hg.short r (hm r hr),hg.start,fun r hr=>hg.left r (hm r hr),fun r hr=>hg.right r (hm r hr)⟩,fun r hr=>hp r (hm r hr)⟩
 have:=hg.few
 dsimp only at this ⊢
 rw [List.length_take]
 omega
theorem step_det {k n:Int} {sv:List Rl} (hi:SInv k n sv) (kn:Ask) (d:Deed) (hkn:KnG (GS k n sv) kn) (hd:d.2.1.2.length*8≤140737488351232):∃ t sv' kn',SInv k n sv'∧KnG (GS k n sv') kn'∧t.2.2.length≤1000∧Says (GS k n sv) d t∧(3≤d.1→sv'=sv)∧StepTo k n d sv kn t sv' kn':=by
 obtain ⟨hg,hp⟩:=hi
 have hfew:sv.length≤10:=hg.few
 have hgo:∀ (t:Told) (sv':List Rl) (kn':Ask),(∀ (v:Nat) (out:List Told) (X:Int×Ask×List Told×List Rl→Prop),v<40→out.length≤40→X ((v:Int)+1,kn',out++[t],sv') →
   (((decide (d.1=(1:Int)))=true→VC42 sv (fun (ret16v:LR)=>VC54 (d.2.1.2) (fun (ret21v:LI)=>(roomW 32 (ret16v.length+[(d.2.1.1,ret21v)].length)∧VC25 (k,(n,((0:Int),(ret16v++[(d.2.1.1,ret21v)])))) (fun (ret27v:Int)=>(((!decide (ret27v=(0:Int)))=true→VCc13_k3 (v:Int) out X ret27v (0:Int) sv kn)∧((!decide (ret27v=(0:Int)))=false→VC55 (k,(n,((0:Int),(ret16v++[(d.2.1.1,ret21v)])))) (fun (ret33v:Bool)=>(((!ret33v)=true→VCc13_k3 (v:Int) out X (3:Int) (0:Int) sv kn)∧((!ret33v)=false→(InR (((ret16v++[(d.2.1.1,ret21v)]).length:Int)-(1:Int))∧VCc13_k3 (v:Int) out X (0:Int) (((ret16v++[(d.2.1.1,ret21v)]).length:Int)-(1:Int)) (ret16v++[(d.2.1.1,ret21v)]) ([]:LS))))))))))))
   ∧ ((decide (d.1=(1:Int)))=false→(((decide (d.1=(2:Int)))=true→(((decide ((sv.length:Int)=(0:Int)))=true→VCc13_k2 (v:Int) out X sv kn (5:Int) (0:Int) ([]:List Int))∧((decide ((sv.length:Int)=(0:Int)))=false→((InR ((sv.length:Int)-(1:Int))∧(0≤((sv.length:Int)-(1:Int))∧((sv.length:Int)-(1:Int))≤(sv.length:Int))∧VC42 (sv.take (((sv.length:Int)-(1:Int))).toNat) (fun (ret41v:LR)=>VCc13_k4 (v:Int) out X ret41v))∧(InR ((sv.length:Int)-(1:Int))∧((0≤((sv.length:Int)-(1:Int))∧((sv.length:Int)-(1:Int))≤(sv.length:Int))∧VC42 (sv.take (((sv.length:Int)-(1:Int))).toNat) (fun (ret41v:LR)=>VCc13_k4 (v:Int) out X ret41v)))))))
   ∧ ((decide (d.1=(2:Int)))=false→(((decide (d.1=(3:Int)))=true→(((decide ((12:Int)<((d.2.2.1).length:Int)))=true→VCc13_k5 (v:Int) out sv X (1:Int) (0:Int) kn)∧((decide ((12:Int)<((d.2.2.1).length:Int)))=false→(((!(mget kn (((d.2.2.1).length:Int),(a12 (d.2.2.1)))).isSome)=true→VC56 (k,(n,((0:Int),sv))) (d.2.2.1) (fun (ret36v:Int×Int)=>VCc13_k6 (v:Int) out sv X ret36v.1 ret36v.2 (mset kn (((d.2.2.1).length:Int),(a12 (d.2.2.1))) ret36v)))∧((!(mget kn (((d.2.2.1).length:Int),(a12 (d.2.2.1)))).isSome)=false→VCc13_k6 (v:Int) out sv X (((mget kn (((d.2.2.1).length:Int),(a12 (d.2.2.1)))).getD ((0:Int),(0:Int))).1) (((mget kn (((d.2.2.1).length:Int),(a12 (d.2.2.1)))).getD ((0:Int),(0:Int))).2) kn)))))
   ∧ ((decide (d.1=(3:Int)))=false→(((decide (d.1=(4:Int)))=true→VC44 (k,(n,((0:Int),sv))) (d.2.2.1) (d.2.2.2.1) (fun (ret61v:LI×Int)=>VCc13_k2 (v:Int) out X sv kn ret61v.2 (0:Int) ret61v.1))
   ∧ ((decide (d.1=(4:Int)))=false→(((decide (d.1=(5:Int)))=true→VC45 (k,(n,((0:Int),sv))) (d.2.2.1) (d.2.2.2.2) (fun (ret78v:Int×Int)=>VCc13_k2 (v:Int) out X sv kn ret78v.2 ret78v.1 ([]:List Int)))∧((decide (d.1=(5:Int)))=false→VCc13_k2 (v:Int) out X sv kn (6:Int) (0:Int) ([]:List Int)))))))))))) →
   StepTo k n d sv kn t sv' kn':=by
  intro t sv' kn' h script v out K X hv hl hsd ho hX
  unfold VCc13_l1
  simp only [Int.toNat_natCast]
  have hsd':script.getD v zD=d:=hsd
  refine ⟨fun _=>⟨⟨by omega,by omega⟩,?_⟩,fun hb=>(by simp only [decide_eq_false_iff_not] at hb;omega)⟩
  simp only [hsd']
  exact h v out X (by omega) ho hX
 have hk2:∀ (v:Nat) (out:List Told) (X:Int×Ask×List Told×List Rl→Prop) (sv':List Rl) (kn':Ask) (c m:Int) (st:List Int),v<40→out.length≤40→X ((v:Int)+1,kn',out++[(c,(m,st))],sv')→VCc13_k2 (v:Int) out X sv' kn' c m st:=by
  intro v out X sv' kn' c m st hv ho hX
  unfold VCc13_k2
  exact ⟨by (first | unfold roomW | unfold roomN);simp only [List.length_cons,List.length_nil];omega,by unfold InR;omega,hX⟩
 by_cases h1:d.1=1
 ·obtain ⟨e,he0,he⟩:=VC25_ex (k,(n,((0:Int),sv++[(d.2.1.1,d.2.1.2)])))
  have hpre:∀ (P:List Rl→List Int→Prop),P sv d.2.1.2→VC42 sv (fun ret16v=>VC54 d.2.1.2 (fun ret21v=>P ret16v ret21v)):=fun P h=>VC42_of (by omega) (VC54_big hd h)
  have hrest:∀ {A:Prop},(decide (d.1=(1:Int)))=false→A:=fun h=>by simp [h1] at h
  by_cases hgood:GoodG (k,(n,((0:Int),sv++[(d.2.1.1,d.2.1.2)])))
  ·by_cases hprop:Prop1 (k,(n,((0:Int),sv++[(d.2.1.1,d.2.1.2)])))
   ·refine ⟨(0,(((sv++[(d.2.1.1,d.2.1.2)]).length:Int)-1,[])),sv++[(d.2.1.1,d.2.1.2)],[],⟨hgood,hprop⟩,knG_nil,by simp,⟨fun h=>(by omega),fun h=>(by omega),fun h=>(by omega)⟩,fun h=>(by omega),hgo _ _ _ fun v out X hv ho hX=>⟨fun _=>hpre _ ⟨?_,he _ ⟨fun h=>?_,fun _=>VC55_of hgood fun b hb=>?_⟩⟩,hrest⟩⟩
    ·(first | unfold roomW | unfold roomN);simp only [List.length_cons,List.length_nil];omega
    ·rw [he0.2 hgood] at h;simp at h
    ·rw [hb.2 hprop]
     refine ⟨fun h=>(by cases h),fun _=>⟨?_,?_⟩⟩
     ·unfold InR;simp only [List.length_append,List.length_cons,List.length_nil];omega
     ·unfold VCc13_k3
      exact hk2 v out X _ _ _ _ _ hv ho hX
   ·refine ⟨(3,(0,[])),sv,kn,⟨hg,hp⟩,hkn,by simp,⟨fun h=>(by omega),fun h=>(by omega),fun h=>(by omega)⟩,fun _=>rfl,hgo _ _ _ fun v out X hv ho hX=>⟨fun _=>hpre _ ⟨?_,he _ ⟨fun h=>?_,fun _=>VC55_of hgood fun b hb=>?_⟩⟩,hrest⟩⟩
    ·(first | unfold roomW | unfold roomN);simp only [List.length_cons,List.length_nil];omega
    ·rw [he0.2 hgood] at h;simp at h
    ·cases b with
     | true=>exact absurd (hb.1 rfl) hprop
     | false =>
      refine ⟨fun _=>?_,fun h=>(by cases h)⟩
      unfold VCc13_k3
      exact hk2 v out X _ _ _ _ _ hv ho hX
  ·refine ⟨(e,(0,[])),sv,kn,⟨hg,hp⟩,hkn,by simp,⟨fun h=>(by omega),fun h=>(by omega),fun h=>(by omega)⟩,fun _=>rfl,hgo _ _ _ fun v out X hv ho hX=>⟨fun _=>hpre _ ⟨?_,he _ ⟨fun _=>?_,fun h=>?_⟩⟩,hrest⟩⟩
   ·(first | unfold roomW | unfold roomN);simp only [List.length_cons,List.length_nil];omega
   ·unfold VCc13_k3
    exact hk2 v out X _ _ _ _ _ hv ho hX
   ·exfalso
    simp at h
    exact hgood (he0.1 h)
 have d1:∀ {A:Prop},(decide (d.1=(1:Int)))=true→A:=fun h=>absurd (by simpa using h) h1
 by_cases h2:d.1=2
 ·have hrest:∀ {A:Prop},(decide (d.1=(2:Int)))=false→A:=fun h=>by simp [h2] at h
  by_cases h0:sv.length=0
  ·refine ⟨(5,(0,[])),sv,kn,⟨hg,hp⟩,hkn,by simp,⟨fun h=>(by omega),fun h=>(by omega),fun h=>(by omega)⟩,fun _=>rfl,hgo _ _ _ fun v out X hv ho hX=>⟨d1,fun _=>⟨fun _=>⟨fun _=>hk2 v out X _ _ _ _ _ hv ho hX,fun h=>?_⟩,hrest⟩⟩⟩
   simp only [decide_eq_false_iff_not] at h
   omega
  ·have hlen:(((sv.length:Int)-1)).toNat=sv.length-1:=by omega
   refine ⟨(0,(0,[])),sv.take (sv.length-1),[],sinv_take ⟨hg,hp⟩ _,knG_nil,by simp,⟨fun h=>(by omega),fun h=>(by omega),fun h=>(by omega)⟩,fun h=>(by omega),hgo _ _ _ fun v out X hv ho hX=>⟨d1,fun _=>⟨fun _=>⟨fun h=>?_,fun _=>?_⟩,hrest⟩⟩⟩
   ·simp only [decide_eq_true_eq] at h
    omega
   ·rw [hlen]
    have hk4:VC42 (sv.take (sv.length-1)) (fun (ret41v:LR)=>VCc13_k4 (v:Int) out X ret41v):=by
     refine VC42_of (by rw [List.length_take];omega) ?_
     unfold VCc13_k4
     exact hk2 v out X _ _ _ _ _ hv ho hX
    exact ⟨⟨by unfold InR;omega,⟨by omega,by omega⟩,hk4⟩,by unfold InR;omega,⟨by omega,by omega⟩,hk4⟩
 have d2:∀ {A:Prop},(decide (d.1=(2:Int)))=true→A:=fun h=>absurd (by simpa using h) h2
 by_cases h3:d.1=3
 ·have hrest:∀ {A:Prop},(decide (d.1=(3:Int)))=false→A:=fun h=>by simp [h3] at h
  by_cases hl:12<d.2.2.1.length
  ·have hans:ansM (GS k n sv) d.2.2.1=(0,1):=by
    have hw:¬GoodW k d.2.2.1:=fun h=>(by have:=h.1;omega)
    unfold ansM werr
    rw [if_neg hw,if_neg hw,if_pos hl]
   refine ⟨(1,(0,[])),sv,kn,⟨hg,hp⟩,hkn,by simp,⟨fun _=>(by rw [hans]),fun h=>(by omega),fun h=>(by omega)⟩,fun _=>rfl,hgo _ _ _ fun v out X hv ho hX=>⟨d1,fun _=>⟨d2,fun _=>⟨fun _=>⟨fun _=>?_,fun h=>?_⟩,hrest⟩⟩⟩⟩
   ·unfold VCc13_k5
    exact hk2 v out X _ _ _ _ _ hv ho hX
   ·simp only [decide_eq_false_iff_not] at h
    omega
  ·have dl:∀ {A:Prop},(decide ((12:Int)<((d.2.2.1).length:Int)))=true→A:=fun h=>by simp only [decide_eq_true_eq] at h;omega
   cases hm:mget kn (((d.2.2.1).length:Int),(a12 (d.2.2.1))) with
   | none =>
    refine ⟨((ansM (GS k n sv) d.2.2.1).2,((ansM (GS k n sv) d.2.2.1).1,[])),sv,mset kn (((d.2.2.1).length:Int),(a12 (d.2.2.1))) (ansM (GS k n sv) d.2.2.1),⟨hg,hp⟩,knG_mset hkn (by omega),by simp,⟨fun _=>rfl,fun h=>(by omega),fun h=>(by omega)⟩,fun _=>rfl,hgo _ _ _ fun v out X hv ho hX=>⟨d1,fun _=>⟨d2,fun _=>⟨fun _=>⟨dl,fun _=>⟨fun _=>VC56_ans hg hp _ ?_,fun h=>?_⟩⟩,hrest⟩⟩⟩⟩
    ·unfold VCc13_k6 VCc13_k5
     exact hk2 v out X _ _ _ _ _ hv ho hX
    ·rw [hm] at h;cases h
   | some r =>
    have hr:=hkn _ (by omega) r hm
    refine ⟨(r.2,(r.1,[])),sv,kn,⟨hg,hp⟩,hkn,by simp,⟨fun _=>(by rw [hr]),fun h=>(by omega),fun h=>(by omega)⟩,fun _=>rfl,hgo _ _ _ fun v out X hv ho hX=>⟨d1,fun _=>⟨d2,fun _=>⟨fun _=>⟨dl,fun _=>⟨fun h=>?_,fun _=>?_⟩⟩,hrest⟩⟩⟩⟩
    ·rw [hm] at h;cases h
    ·rw [hm]
     unfold VCc13_k6 VCc13_k5
     exact hk2 v out X _ _ _ _ _ hv ho hX
 have d3:∀ {A:Prop},(decide (d.1=(3:Int)))=true→A:=fun h=>absurd (by simpa using h) h3
 by_cases h4:d.1=4
 ·have hrest:∀ {A:Prop},(decide (d.1=(4:Int)))=false→A:=fun h=>by simp [h4] at h
  have hr1:=ansP_len hp d.2.2.1 d.2.2.2.1
  exact ⟨((ansP (GS k n sv) d.2.2.1 d.2.2.2.1).2,(0,(ansP (GS k n sv) d.2.2.1 d.2.2.2.1).1)),sv,kn,⟨hg,hp⟩,hkn,by dsimp only;omega,⟨fun h=>(by omega),fun _=>rfl,fun h=>(by omega)⟩,fun _=>rfl,hgo _ _ _ fun v out X hv ho hX=>⟨d1,fun _=>⟨d2,fun _=>⟨d3,fun _=>⟨fun _=>VC44_ans hg hp _ _ (hk2 v out X _ _ _ _ _ hv ho hX),hrest⟩⟩⟩⟩⟩
 have d4:∀ {A:Prop},(decide (d.1=(4:Int)))=true→A:=fun h=>absurd (by simpa using h) h4
 by_cases h5:d.1=5
 ·have hrest:∀ {A:Prop},(decide (d.1=(5:Int)))=false→A:=fun h=>by simp [h5] at h
  by_cases hq:∃ p:Nat,GoodW k d.2.2.1∧¬1099511627776<(cntW (GS k n sv) d.2.2.1:Int)∧p<cntW (GS k n sv) d.2.2.1∧(SG (GS k n sv) d.2.2.1 (k+0) 0 d.2.2.1.length).getD p []=d.2.2.2.2
  ·obtain ⟨p,q1,q2,q3,q4⟩:=hq
   refine ⟨(0,((p:Int),[])),sv,kn,⟨hg,hp⟩,hkn,by simp,⟨fun h=>(by omega),fun h=>(by omega),fun _ _ _ p' q5 q6=>?_⟩,fun _=>rfl,hgo _ _ _ fun v out X hv ho hX=>⟨d1,fun _=>⟨d2,fun _=>⟨d3,fun _=>⟨d4,fun _=>⟨fun _=>VC45_at hg q1 hp q2 q3 q4 (hk2 v out X _ _ _ _ _ hv ho hX),hrest⟩⟩⟩⟩⟩⟩
   have:p'=p:=sg_inj (g:=GS k n sv) q5 q3 (by rw [q6,q4])
   rw [this]
  ·obtain ⟨r,hr⟩:=VC45_ex hg hp d.2.2.1 d.2.2.2.2
   exact ⟨(r.2,(r.1,[])),sv,kn,⟨hg,hp⟩,hkn,by simp,⟨fun h=>(by omega),fun h=>(by omega),fun _ q1 q2 p q3 q4=>absurd ⟨p,q1,q2,q3,q4⟩ hq⟩,fun _=>rfl,hgo _ _ _ fun v out X hv ho hX=>⟨d1,fun _=>⟨d2,fun _=>⟨d3,fun _=>⟨d4,fun _=>⟨fun _=>hr _ (hk2 v out X _ _ _ _ _ hv ho hX),hrest⟩⟩⟩⟩⟩⟩
 have d5:∀ {A:Prop},(decide (d.1=(5:Int)))=true→A:=fun h=>absurd (by simpa using h) h5
 exact ⟨(6,(0,[])),sv,kn,⟨hg,hp⟩,hkn,by simp,⟨fun h=>absurd h h3,fun h=>absurd h h4,fun h=>absurd h h5⟩,fun _=>rfl,hgo _ _ _ fun v out X hv ho hX=>⟨d1,fun _=>⟨d2,fun _=>⟨d3,fun _=>⟨d4,fun _=>⟨d5,fun _=>hk2 v out X _ _ _ _ _ hv ho hX⟩⟩⟩⟩⟩⟩
inductive Run (k n:Int):List Rl→Ask→List Deed→List Told→List Rl→Ask→Prop
 | nil (sv:List Rl) (kn:Ask):Run k n sv kn [] [] sv kn
 | cons {d:Deed} {sv:List Rl} {kn:Ask} {t:Told} {sv1:List Rl} {kn1:Ask} {ds:List Deed} {ts:List Told} {sv2:List Rl} {kn2:Ask} (h:StepTo k n d sv kn t sv1 kn1) (hr:Run k n sv1 kn1 ds ts sv2 kn2):Run k n sv kn (d::ds) (t::ts) sv2 kn2
theorem Run.len {k n:Int} {sv kn ds ts sv' kn'} (h:Run k n sv kn ds ts sv' kn'):ts.length=ds.length:=by
 induction h with
 | nil=>rfl
 | cons _ _ ih=>simp [ih]
theorem Run.append {k n:Int} {sv kn ds ts sv' kn'} (h:Run k n sv kn ds ts sv' kn'):∀ {es us sv2 kn2},Run k n sv' kn' es us sv2 kn2→Run k n sv kn (ds++es) (ts++us) sv2 kn2:=by
 induction h with
 | nil=>exact fun h=>h
 | cons h1 _ ih=>exact fun h=>.cons h1 (ih h)
theorem Run.to {k n:Int} {sv kn ds ts sv' kn'} (h:Run k n sv kn ds ts sv' kn'):∀ (script:List Deed) (v:Nat) (out:List Told) (K:List Told×Int→Prop) (X:Int×Ask×List Told×List Rl→Prop),(∀ s:Int×Ask×List Told×List Rl,VCc13_l1 script k n K s.1 s.2.1 s.2.2.1 s.2.2.2 X→X s)→script.length≤40→v≤script.length→out.length≤v→script.drop v=ds→K (out++ts,0)→X ((v:Int),kn,out,sv):=by
 induction h with
 | nil sv kn =>
  intro script v out K X hX hl hv ho hdrop hK
  refine hX _ ?_
  dsimp only
  unfold VCc13_l1
  have hle:=List.drop_eq_nil_iff.1 hdrop
  refine ⟨fun h=>(by simp only [decide_eq_true_eq] at h;omega),fun _=>?_⟩
  unfold VCc13_k1
  simpa using hK
 | cons h1 _ ih =>
  intro script v out K X hX hl hv ho hdrop hK
  refine hX _ ?_
  obtain ⟨hvl,hget,hdrop'⟩:=at_drop hdrop zD
  refine h1 script v out K X hvl hl hget (by omega) ?_
  have:=ih script (v+1) (out++[_]) K X hX hl (by omega) (by simp;omega) hdrop' (by rw [List.append_assoc];exact hK)
  rw [show (((v+1:Nat):Int))=(v:Int)+1 by omega] at this
  exact this
theorem Run.play {k n:Int} {L ts sv' kn'} (h:Run k n [] [] L ts sv' kn') (hg:GoodG (GS k n [])) (hl:L.length≤40) {K:List Told×Int→Prop} (hK:K (ts,0)):VCcr13 L k n K:=by
 refine ⟨1,?_⟩
 show VCc13 L (VCc13_it L 0) k n K
 unfold VCc13
 refine VC25_of (fun _ _ h=>absurd hg h) fun _=>⟨fun h=>(by simp at h),fun _=>⟨fun h=>?_,fun _=>?_⟩⟩
 ·simp only [decide_eq_true_eq] at h
  omega
 ·intro X hX
  exact h.to L 0 [] K X hX hl (by omega) (by simp) (by simp) (by simpa using hK)
theorem play_bad {k n:Int} {L:List Deed} (h:¬(GoodG (GS k n [])∧L.length≤40)):∃ e:Int,e≠0∧∀ K:List Told×Int→Prop,K ([],e)→VCcr13 L k n K:=by
 obtain ⟨e,he0,he⟩:=VC25_ex (GS k n [])
 by_cases hg:GoodG (GS k n [])
 ·refine ⟨1,by decide,fun K hK=>⟨1,?_⟩⟩
  show VCc13 L (VCc13_it L 0) k n K
  unfold VCc13
  refine he _ ⟨fun h0=>?_,fun _=>⟨fun _=>hK,fun h0=>?_⟩⟩
  ·rw [he0.2 hg] at h0;simp at h0
  ·simp only [decide_eq_false_iff_not] at h0
   exact absurd ⟨hg,by omega⟩ h
 ·have hne:e≠0:=fun h=>hg (he0.1 h)
  refine ⟨e,hne,fun K hK=>⟨1,?_⟩⟩
  show VCc13 L (VCc13_it L 0) k n K
  unfold VCc13
  refine he _ ⟨fun _=>hK,fun h=>?_⟩
  simp at h
  exact absurd h hne
theorem run_ex {k n:Int} : ∀ (ds:List Deed) (sv:List Rl) (kn:Ask),SInv k n sv→KnG (GS k n sv) kn→(∀ d∈ds,d.2.1.2.length*8≤140737488351232)→∃ ts sv' kn',Run k n sv kn ds ts sv' kn'∧SInv k n sv'∧KnG (GS k n sv') kn'
 | [],sv,kn,hi,hk,_=>⟨[],sv,kn,.nil _ _,hi,hk⟩
 | d::ds,sv,kn,hi,hk,hd=>by
  obtain ⟨t,sv1,kn1,hi1,hk1,_,_,_,hstep⟩:=step_det hi kn d hk (hd d List.mem_cons_self)
  obtain ⟨ts,sv2,kn2,h1,h2,h3⟩:=run_ex ds sv1 kn1 hi1 hk1 fun x hx=>hd x (List.mem_cons_of_mem _ hx)
  exact ⟨t::ts,sv2,kn2,.cons hstep h1,h2,h3⟩
theorem ask_ex {k n:Int} {sv:List Rl} {kn:Ask} (hi:SInv k n sv) (hk:KnG (GS k n sv) kn) (d:Deed) (hd:d.2.1.2=[]) (h3:3≤d.1):∃ t kn',KnG (GS k n sv) kn'∧t.2.2.length≤1000∧Says (GS k n sv) d t∧StepTo k n d sv kn t sv kn':=by
 obtain ⟨t,sv1,kn1,hi1,hk1,h1,h2,h4,hstep⟩:=step_det hi kn d hk (by rw [hd];simp)
 have e:=h4 h3
 subst e
 exact ⟨t,kn1,hk1,h1,h2,hstep⟩
end Dec
namespace Dec
open Go Go.Proofs Cfg
theorem ans_err {g:Gr} {w:List Int} {i:Int} (h:(ansM g w).2≠0):(ansP g w i).2=(ansM g w).2:=by
 unfold ansM ansP at *
 split at h
 ·rename_i hw
  split at h
  ·rename_i hb
   rw [if_pos hw,if_pos hb,if_pos hw,if_pos hb]
  ·exact absurd rfl h
 ·rename_i hw
  rw [if_neg hw,if_neg hw]
theorem ans_ok {g:Gr} {w:List Int} (h:(ansM g w).2=0):GoodW g.1 w∧¬1099511627776<(cntW g w:Int)∧(ansM g w).1=(cntW g w:Int):=by
 unfold ansM at *
 by_cases hw:GoodW g.1 w
 ·rw [if_pos hw] at h ⊢
  by_cases hb:1099511627776<(cntW g w:Int)
  ·rw [if_pos hb] at h
   cases h
  ·rw [if_neg hb]
   exact ⟨hw,hb,rfl⟩
 ·rw [if_neg hw] at h
  exact absurd h (werr_ne hw)
theorem ansP_in {g:Gr} {w:List Int} {i:Int} (hw:GoodW g.1 w) (hb:¬1099511627776<(cntW g w:Int)) (hi:0≤i∧i<(cntW g w:Int)):ansP g w i=((SG g w (g.1+g.2.2.1) 0 w.length).getD i.toNat [],0):=by
 unfold ansP
 rw [if_pos hw,if_neg hb,if_pos hi]
theorem ansP_out {g:Gr} {w:List Int} {i:Int} (hw:GoodW g.1 w) (hb:¬1099511627776<(cntW g w:Int)) (hi:¬(0≤i∧i<(cntW g w:Int))):ansP g w i=([],5):=by
 unfold ansP
 rw [if_pos hw,if_neg hb,if_neg hi]
theorem goodG_nil {k n:Int} (hk:1≤k∧k≤3) (hn:1≤n∧n≤5):GoodG (GS k n []) :=
 ⟨hk,hn,by simp,fun r h=>(by cases h),⟨by dsimp only;omega,by dsimp only;omega⟩,fun r h=>(by cases h),fun r h=>(by cases h)⟩
theorem may_iff {k n:Int} {m:Nat} : (((((decide ((1:Int)≤k))&&(decide (k≤(3:Int))))&&(decide ((1:Int)≤n)))&&(decide (n≤(5:Int))))&&(decide ((m:Int)≤(40:Int))))=true↔GoodG (GS k n [])∧m≤40:=by
 simp only [Bool.and_eq_true,decide_eq_true_eq]
 constructor
 ·rintro ⟨⟨⟨⟨h1,h2⟩,h3⟩,h4⟩,h5⟩
  exact ⟨goodG_nil ⟨h1,h2⟩ ⟨h3,h4⟩,by omega⟩
 ·rintro ⟨hg,hm⟩
  have hk:=hg.k
  have hn:=hg.n
  exact ⟨⟨⟨⟨hk.1,hk.2⟩,hn.1⟩,hn.2⟩,by omega⟩
theorem VC14_bad {k n:Int} {L:List Deed} (h:¬(GoodG (GS k n [])∧L.length≤40)) {A B:Bool→Prop} (hA:A false):VC14 k n L (fun b=>((!b)=true→A b)∧((!b)=false→B b)):=by
 unfold VC14
 have e:(((((decide ((1:Int)≤k))&&(decide (k≤(3:Int))))&&(decide ((1:Int)≤n)))&&(decide (n≤(5:Int))))&&(decide ((L.length:Int)≤(40:Int))))=false:=by
  rw [←Bool.not_eq_true]
  exact fun h'=>h (may_iff.1 h')
 rw [e]
 exact ⟨fun _=>hA,fun h=>(by cases h)⟩
theorem VC14_good {k n:Int} {L:List Deed} (hg:GoodG (GS k n [])) (hl:L.length≤40) {A B:Bool→Prop} (hB:B true):VC14 k n L (fun b=>((!b)=true→A b)∧((!b)=false→B b)):=by
 unfold VC14
 rw [may_iff.2 ⟨hg,hl⟩]
 exact ⟨fun h=>(by cases h),fun _=>hB⟩
theorem sg_ne {g:Gr} {w:List Int} {s:Int} (hs:¬s<g.1) {i j:Nat} {a:List Int} (h:a∈SG g w s i j):a≠[]:=by
 obtain ⟨k,_,_,a',_,rfl⟩:=mem_name hs h
 simp
theorem topTrees (k n:Int) (script:List Deed) (w:List Int) (i:Int) (hlen:script.length*96≤140737488351232) (hd:∀ d∈script,d.2.1.2.length*8≤140737488351232):VC5 k n script w i (fun b=>b=true):=by
 unfold VC5
 simp only [List.nil_append]
 refine ⟨by (first | unfold roomW | unfold roomN);simp only [List.length_nil];omega,by (first | unfold roomW | unfold roomN);simp only [List.length_cons,List.length_nil];omega,?_⟩
 obtain ⟨M,hM⟩:∃ M:Deed,M=((3:Int),(((0:Int),([]:LI)),(w,((0:Int),([]:LI))))):=⟨_,rfl⟩
 obtain ⟨P,hP⟩:∃ P:Deed,P=((4:Int),(((0:Int),([]:LI)),(w,(i,([]:LI))))):=⟨_,rfl⟩
 obtain ⟨Q,hQ⟩:∃ Q:Deed,Q=((4:Int),(((0:Int),([]:LI)),(w,((i+(1:Int)),([]:LI))))):=⟨_,rfl⟩
 simp only [←hM,←hP,←hQ]
 by_cases hgood:GoodG (GS k n [])∧(script++[M,P]).length≤40
 ·obtain ⟨hg,hl⟩:=hgood
  have hl':script.length≤38:=by simp only [List.length_append,List.length_cons,List.length_nil] at hl;omega
  obtain ⟨ts,sv,kn,hrun,hinv,hkn⟩:=run_ex script [] [] ⟨hg,fun r hr=>(by cases hr)⟩ knG_nil hd
  obtain ⟨t1,kn1,hk1,hl1,hs1,hst1⟩:=ask_ex hinv hkn M (by rw [hM]) (by rw [hM];show (3:Int)≤3;omega)
  obtain ⟨t2,kn2,hk2,hl2,hs2,hst2⟩:=ask_ex hinv hk1 P (by rw [hP]) (by rw [hP];show (3:Int)≤4;omega)
  have r1:=hrun.append (.cons hst1 (.cons hst2 (.nil _ _)))
  have htl:=hrun.len
  have e1:=hs1.1 (by rw [hM])
  have e2:=hs2.2.1 (by rw [hP])
  rw [hM] at e1
  rw [hP] at e2
  dsimp only at e1 e2
  have n0:((script.length:Int)).toNat=script.length:=by omega
  have n1:((script.length:Int)+1).toNat=script.length+1:=by omega
  have n2:((script.length:Int)+2).toNat=script.length+2:=by omega
  have n3:((script.length:Int)+3).toNat=script.length+3:=by omega
  have g1:(ts++[t1,t2]).getD script.length zT=t1:=by rw [getD_append_r (by omega),htl,Nat.sub_self];rfl
  have g2:(ts++[t1,t2]).getD (script.length+1) zT=t2:=by rw [getD_append_r (by omega),htl,show script.length+1-script.length=1 by omega];rfl
  refine r1.play hg hl ?_
  dsimp only
  simp only [n0,n1,n2,n3,g1,g2]
  have hol:(ts++[t1,t2]).length=script.length+2:=by simp only [List.length_append,List.length_cons,List.length_nil,htl]
  refine VC14_good hg hl ⟨fun hbad=>?_,fun _=>⟨by unfold inIdx;rw [hol];omega,by unfold InR;omega,by unfold inIdx;rw [hol];omega,fun hne=>?_,fun hok=>?_⟩⟩
  ·exfalso
   rw [hol] at hbad
   simp [List.length_append] at hbad
  ·simp only [Bool.not_eq_true',decide_eq_false_iff_not] at hne
   rw [e1] at hne
   rw [e1,e2]
   simp only [decide_eq_true_eq]
   exact ans_err hne
  ·simp only [Bool.not_eq_false',decide_eq_true_eq] at hok
   rw [e1] at hok
   obtain ⟨hw,hb,hN⟩:=ans_ok hok
   by_cases hin:0≤i∧i<(cntW (GS k n sv) w:Int)
   ·rw [ansP_in hw hb hin] at e2
    dsimp only at e2
    refine ⟨fun hbad=>?_,fun _=>⟨fun hne=>?_,fun _=>⟨by unfold InR;omega,by (first | unfold roomW | unfold roomN);simp only [List.length_append,List.length_cons,List.length_nil];omega,?_⟩⟩⟩
    ·exfalso
     rw [e1,e2] at hbad
     dsimp only at hbad
     rw [hN] at hbad
     simp [hin.1,hin.2] at hbad
    ·rw [e2] at hne
     simp at hne
    ·obtain ⟨R,hR⟩:∃ R:Deed,R=((5:Int),(((0:Int),([]:LI)),(w,((0:Int),t2.2.2)))):=⟨_,rfl⟩
     simp only [←hR]
     by_cases h40:((script++[M,P])++[R,Q]).length≤40
     ·obtain ⟨t3,kn3,hk3,hl3,hs3,hst3⟩:=ask_ex hinv hk2 R (by rw [hR]) (by rw [hR];show (3:Int)≤5;omega)
      obtain ⟨t4,kn4,hk4,hl4,hs4,hst4⟩:=ask_ex hinv hk3 Q (by rw [hQ]) (by rw [hQ];show (3:Int)≤4;omega)
      have r2:=r1.append (.cons hst3 (.cons hst4 (.nil _ _)))
      have e3:=hs3.2.2 (by rw [hR])
      have e4:=hs4.2.1 (by rw [hQ])
      rw [hR] at e3
      rw [hQ] at e4
      dsimp only at e3 e4
      have hpi:i.toNat<cntW (GS k n sv) w:=by omega
      have e3':=e3 hw hb i.toNat hpi (by rw [e2])
      rw [show ((i.toNat:Nat):Int)=i by omega] at e3'
      have g3:((ts++[t1,t2])++[t3,t4]).getD (script.length+2) zT=t3:=by rw [getD_append_r (by omega),hol,Nat.sub_self];rfl
      have g4:((ts++[t1,t2])++[t3,t4]).getD (script.length+3) zT=t4:=by rw [getD_append_r (by omega),hol,show script.length+3-(script.length+2)=1 by omega];rfl
      have hol2:((ts++[t1,t2])++[t3,t4]).length=script.length+4:=by rw [List.length_append,hol];rfl
      refine r2.play hg h40 ?_
      dsimp only
      simp only [g3,g4]
      have a2:InR ((script.length:Int)+2):=by unfold InR;omega
      have a3:InR ((script.length:Int)+3):=by unfold InR;omega
      have b2:inIdx ((script.length:Int)+2) ((ts++[t1,t2])++[t3,t4]).length:=by unfold inIdx;rw [hol2];omega
      have b3:inIdx ((script.length:Int)+3) ((ts++[t1,t2])++[t3,t4]).length:=by unfold inIdx;rw [hol2];omega
      refine VC14_good hg h40 ⟨fun _=>a2,fun _=>b2,fun _=>a2,fun _=>b2,fun _=>by unfold InR;omega,fun _=>a3,fun _=>b3,fun _=>a3,fun _=>b3,?_⟩
      have hnext:decide (i+1<t1.2.1)=decide (t4.1=0)∧t4.2.2≠t2.2.2:=by
       have hmem:(SG (GS k n sv) w ((GS k n sv).1+(GS k n sv).2.2.1) 0 w.length).getD i.toNat []∈SG (GS k n sv) w ((GS k n sv).1+(GS k n sv).2.2.1) 0 w.length:=getD_mem hpi
       rw [e1,e2,e4]
       dsimp only
       rw [hN]
       by_cases hj:0≤i+1∧i+1<(cntW (GS k n sv) w:Int)
       ·rw [ansP_in hw hb hj]
        refine ⟨by simp [hj.2],fun h=>?_⟩
        have:=sg_inj (g:=GS k n sv) (p:=(i+1).toNat) (q:=i.toNat) (show (i+1).toNat<cntW (GS k n sv) w by omega) hpi h
        omega
       ·rw [ansP_out hw hb hj]
        refine ⟨?_,fun h=>sg_ne (by dsimp only;omega) hmem h.symm⟩
        have:¬i+1<(cntW (GS k n sv) w:Int):=by omega
        simp [this]
      refine gcall_both (fun _=>VC15_of hl4 ?_) (fun h=>?_)
      ·rw [decide_eq_false hnext.2,hnext.1,hol2,e3']
       simp
      ·rw [hnext.1,hol2,e3'] at h
       simp at h
     ·obtain ⟨e,he,h⟩:=play_bad (k:=k) (n:=n) (L:=(script++[M,P])++[R,Q]) (fun h=>h40 h.2)
      exact h _ (VC14_bad (fun h=>h40 h.2) (by simp [he]))
   ·rw [ansP_out hw hb hin] at e2
    refine ⟨fun hbad=>?_,fun _=>⟨fun _=>by rw [e2];rfl,fun hz=>?_⟩⟩
    ·exfalso
     rw [e1,e2] at hbad
     dsimp only at hbad
     rw [hN] at hbad
     have:(decide ((0:Int)≤i)&&decide (i<(cntW (GS k n sv) w:Int)))=false:=by
      rw [←Bool.not_eq_true]
      simp only [Bool.and_eq_true,decide_eq_true_eq]
      exact hin
     rw [this] at hbad
     simp at hbad
    ·rw [e2] at hz
     simp at hz
 ·obtain ⟨e,he,h⟩:=play_bad hgood
  exact h _ (VC14_bad hgood (by simp [he]))
theorem deeds_sz {l:List Deed} (h:SzOk (.sl (.pr (.int .i64) (.pr (.pr (.int .i64) (.sl (.int .i64))) (.pr (.sl (.int .i64)) (.pr (.int .i64) (.sl (.int .i64))))))) l):l.length*96≤140737488351232∧∀ d∈l,d.2.1.2.length*8≤140737488351232 :=
 ⟨h.1,fun d hd=>(h.2 d hd).2.1.2.1⟩
end Dec
