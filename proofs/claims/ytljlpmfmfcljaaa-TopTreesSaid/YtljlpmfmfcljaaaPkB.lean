/-
Counter.Row counts trees, up to a bound (plain). pick.ranges: the parts between ends (plain). pick.nth: it writes the tree that stands at a place (plain).
-/
import Derived.Test.YtljlpmfmfcljaaaTabY
import Derived.Test.YtljlpmfmfcljaaaCount
import Derived.Test.YtljlpmfmfcljaaaPop
set_option linter.unusedSimpArgs false
set_option linter.unusedVariables false
namespace Dec
open Go Go.Proofs Cfg
abbrev Kn:=List ((Int×(Int×(Int×Int)))×Int)
def CapV (v:Int) (n:Nat):Prop:=v=min (n:Int) 1099511627777
theorem VC83_cap {a b:Int} {m n:Nat} (ha:CapV a m) (hb:CapV b n) {K:Int→Prop} (h:∀ v,CapV v (m+n)→K v):VC83 a b K:=by
 unfold CapV at *
 unfold VC83 InR imin
 refine ⟨by omega,h _ ?_⟩
 omega
theorem mul_cap {m n:Nat} {a b:Int} (ha:CapV a m) (hb:CapV b n) (h0:0<a) (h1:0<b):(1099511627777 / b<a→CapV 1099511627777 (m*n))∧(¬1099511627777 / b<a→a*b≤1099511627777∧CapV (a*b) (m*n)):=by
 unfold CapV at *
 have hm:0<m:=by omega
 have hn:0<n:=by omega
 have ham:a≤(m:Int):=by omega
 have hbn:b≤(n:Int):=by omega
 have hle:a*b≤(m:Int)*(n:Int):=Int.mul_le_mul ham hbn (by omega) (by omega)
 constructor
 ·intro hlt
  have h2:¬a*b≤1099511627777:=fun h=>by
   have:=(Int.le_ediv_iff_mul_le h1).2 h
   omega
  push_cast
  omega
 ·intro hge
  have h2:a*b≤1099511627777:=(Int.le_ediv_iff_mul_le h1).1 (by omega)
  refine ⟨h2,?_⟩
  push_cast
  by_cases ea:(m:Int)≤1099511627777
  ·by_cases eb:(n:Int)≤1099511627777
   ·have e1:a=m:=by omega
    have e2:b=n:=by omega
    rw [←e1,←e2];omega
   ·have e2:b=1099511627777:=by omega
    have e1:a=1:=by subst e2;omega
    have e3:(m:Int)=1:=by omega
    rw [e3,e1,e2];omega
  ·have e1:a=1099511627777:=by omega
   have e2:b=1:=by subst e1;omega
   have e3:(n:Int)=1:=by omega
   rw [e3,e1,e2];omega
theorem VC86_cap {a b:Int} {m n:Nat} (ha:CapV a m) (hb:CapV b n) {K:Int→Prop} (h:∀ v,CapV v (m*n)→K v):VC86 a b K:=by
 have ha0:0≤a:=by unfold CapV at ha;omega
 have hb0:0≤b:=by unfold CapV at hb;omega
 unfold VC86 InR imin
 refine ⟨fun hz=>h _ ?_,fun hz=>⟨⟨by omega,?_⟩,fun hlt=>h _ ?_,fun hge=>?_⟩⟩
 ·simp only [Bool.or_eq_true,decide_eq_true_eq] at hz
  unfold CapV at *
  have:m=0∨n=0:=by omega
  rcases this with e | e <;> subst e <;> simp <;> omega
 ·simp only [Bool.or_eq_false_iff,decide_eq_false_iff_not] at hz
  omega
 ·simp only [Bool.or_eq_false_iff,decide_eq_false_iff_not] at hz
  simp only [decide_eq_true_eq] at hlt
  exact (mul_cap ha hb (by omega) (by omega)).1 hlt
 ·simp only [Bool.or_eq_false_iff,decide_eq_false_iff_not] at hz
  simp only [decide_eq_false_iff_not] at hge
  obtain ⟨h1,h2⟩:=(mul_cap ha hb (by omega) (by omega)).2 hge
  have h3:0<a*b:=Int.mul_pos (by omega) (by omega)
  refine ⟨⟨by omega,by omega⟩,h _ ?_⟩
  rw [Int.min_eq_left h1]
  exact h2
section
variable {g:Gr} {w:List Int}
def Prop1 (g:Gr):Prop:=∀ r∈g.2.2.2,r.2≠[]∧∀ s,r.2=[s]→s<g.1
abbrev SG (g:Gr) (w:List Int):Int→Nat→Nat→List (List Int):=sgnT g.1 g.2.2.2 w (w.length+1)
def cntS (g:Gr) (w:List Int) (s:Int) (i j:Nat):Nat:=(SG g w s i j).length
def cntR (g:Gr) (w:List Int) (l:List Int) (i j:Nat):Nat:=(rowT (SG g w) l i j).length
def sumTo (f:Nat→Nat) (v:Nat):Nat:=((List.range v).map f).sum
theorem sumTo_succ (f:Nat→Nat) (v:Nat):sumTo f (v+1)=sumTo f v+f v:=by
 unfold sumTo
 rw [List.range_succ,List.map_append,List.sum_append]
 simp
theorem row_stable (hp:Prop1 g) {r:Rl} (hr:r∈g.2.2.2) {i j f:Nat} (h:j-i≤f):rowT (sgnT g.1 g.2.2.2 w f) r.2 i j=rowT (sgnT g.1 g.2.2.2 w (f+1)) r.2 i j:=by
 obtain ⟨h1,h2⟩:=hp r hr
 cases hl:r.2 with
 | nil=>exact absurd hl h1
 | cons x l =>
  cases l with
  | nil =>
   have hx:=h2 x hl
   unfold rowT
   simp [cutsL,prodT,sgnT_sym hx]
  | cons y l=>exact rowT_two fun s a b h3 h4 h5=>(sgnT_stable hp f s a b (by omega)).symm
theorem cnt_name (hp:Prop1 g) {s:Int} {i j:Nat} (hs:¬s<g.1) (hj:j≤w.length):cntS g w s i j=sumTo (fun k=>if (g.2.2.2.getD k (0,[])).1=s-g.1 then cntR g w (g.2.2.2.getD k (0,[])).2 i j else 0) g.2.2.2.length:=by
 unfold cntS SG
 rw [sgnT_name hs,length_flatMap']
 unfold sumTo
 congr 1
 refine List.map_congr_left fun k hk=>?_
 have hk':=List.mem_range.1 hk
 split
 ·rw [List.length_map,row_stable hp (getD_mem hk') (by omega)]
  rfl
 ·rfl
theorem cnt_one (s:Int) (i j:Nat):cntR g w [s] i j=cntS g w s i j:=rowT_one _ s i j
theorem cnt_two (s t:Int) (l:List Int) (i j:Nat):cntR g w (s::t::l) i j=sumTo (fun q=>cntS g w s i (q+(i+1))*cntR g w (t::l) (q+(i+1)) j) (j-(i+1)):=by
 unfold cntR
 rw [rowT_len,List.map_map]
 rfl
theorem cnt_sym {s:Int} {i j:Nat} (hs:s<g.1):cntS g w s i j=if j=i+1∧w[i]? = some s then 1 else 0:=by
 unfold cntS SG
 rw [sgnT_sym hs]
 split <;> rfl
theorem prod_len {S:Int→Nat→Nat→List (List Int)} (hS:∀ s i j a,a∈S s i j→i<j):∀ (l:List Int) (i j:Nat),∀ es∈cutsL l.length i j,∀ a,a∈prodT S l i es→i+l.length≤j
 | [],i,j,es,he,a,ha=>by simp [cutsL] at he
 | [s],i,j,es,he,a,ha=>by
  simp [cutsL] at he
  subst he
  simp only [prodT,List.mem_flatMap] at ha
  obtain ⟨b,hb,_⟩:=ha
  have:=hS s i j b hb
  simp only [List.length_cons,List.length_nil]
  omega
 | s::t::l,i,j,es,he,a,ha=>by
  rw [show (s::t::l).length=l.length+2 from rfl,cutsL_succ,List.mem_flatMap] at he
  obtain ⟨m,hm,he⟩:=he
  obtain ⟨q,hq,rfl⟩:=List.mem_map.1 he
  obtain ⟨z,hz,rfl⟩:=List.mem_map.1 hm
  have ha':a∈(S s i (z+(i+1))).flatMap fun b=>(prodT S (t::l) (z+(i+1)) q).map (b++·):=ha
  obtain ⟨b,hb,h2⟩:=List.mem_flatMap.1 ha'
  obtain ⟨c,hc,_⟩:=List.mem_map.1 h2
  have:=prod_len hS (t::l) (z+(i+1)) j q hq c hc
  simp only [List.length_cons] at this ⊢
  omega
theorem row_len' {S:Int→Nat→Nat→List (List Int)} (hS:∀ s i j a,a∈S s i j→i<j) {l:List Int} {i j:Nat} {a:List Int} (h:a∈rowT S l i j):i+l.length≤j:=by
 unfold rowT at h
 obtain ⟨es,h1,h2⟩:=List.mem_flatMap.1 h
 exact prod_len hS l i j es h1 a h2
theorem sgn_lt (hp:Prop1 g):∀ (f:Nat) (s:Int) (i j:Nat) (a:List Int),a∈sgnT g.1 g.2.2.2 w f s i j→i<j
 | f,s,i,j,a,h=>by
  by_cases hs:s<g.1
  ·rw [sgnT_sym hs] at h
   split at h
   ·omega
   ·cases h
  ·cases f with
   | zero=>rw [sgnT,if_neg hs] at h;cases h
   | succ f =>
    obtain ⟨k,hk,_,a',h3,_⟩:=mem_name hs h
    have h4:=row_len' (sgn_lt hp f) h3
    have h5:=(hp _ (getD_mem (d:=((0:Int),([]:List Int))) hk)).1
    have h6:0<(g.2.2.2.getD k (0,[])).2.length:=List.length_pos_iff.2 h5
    omega
theorem cnt_short (hp:Prop1 g) {l:List Int} {i j:Nat} (h:j<i+l.length):cntR g w l i j=0:=by
 unfold cntR
 rw [List.length_eq_zero_iff,List.eq_nil_iff_forall_not_mem]
 intro a ha
 have:=row_len' (sgn_lt hp _) ha
 omega
end
end Dec
namespace Dec
open Go Go.Proofs Cfg
section
variable {g:Gr} {w:List Int}
def MeanC (g:Gr) (w:List Int) (c x i j:Int):Nat:=if c = -1 then cntS g w x i.toNat j.toNat else cntR g w ((g.2.2.2.getD c.toNat (0,[])).2.drop x.toNat) i.toNat j.toNat
def KnOk (g:Gr) (w:List Int) (kn:Kn):Prop:=∀ c x i j v,mget kn (c,(x,(i,j)))=some v→CapV v (MeanC g w c x i j)
theorem knOk_nil:KnOk g w []:=by intro c x i j v h;cases h
theorem knOk_mset {kn:Kn} (h:KnOk g w kn) {c x i j v:Int} (hv:CapV v (MeanC g w c x i j)):KnOk g w (mset kn (c,(x,(i,j))) v):=by
 intro c' x' i' j' v' h'
 rw [mget_mset] at h'
 split at h'
 ·rename_i e
  cases e
  cases h'
  exact hv
 ·exact h c' x' i' j' v' h'
theorem capV_zero:CapV 0 0:=by unfold CapV;omega
theorem capV_one:CapV 1 1:=by unfold CapV;omega
theorem sign_loop (hp:Prop1 g) {s:Int} {i j:Nat} (hs:¬s<g.1) (hj:j≤w.length) {kn0:Kn} (h0:KnOk g w kn0) {B:Int×Int×Kn→(Int×Int×Kn→Prop)→Prop}
  (step:∀ (n:Int) (v:Nat) (kn:Kn) (X:Int×Int×Kn→Prop),v<g.2.2.2.length→KnOk g w kn→((g.2.2.2.getD v (0,[])).1=s-g.1→(∀ r kn',KnOk g w kn'→CapV r (cntR g w (g.2.2.2.getD v (0,[])).2 i j)→VC83 n r (fun n'=>X (n',(v:Int)+1,kn'))))→((g.2.2.2.getD v (0,[])).1≠s-g.1→X (n,(v:Int)+1,kn))→B (n,(v:Int),kn) X)
  (stop:∀ (n:Int) (kn:Kn) (X:Int×Int×Kn→Prop),KnOk g w kn→CapV n (cntS g w s i j)→B (n,(g.2.2.2.length:Int),kn) X):Loop B (0,0,kn0):=by
 refine Loop.by (fun t=>∃ v:Nat,t.2.1=(v:Int)∧v≤g.2.2.2.length∧KnOk g w t.2.2∧CapV t.1 (sumTo (fun k=>if (g.2.2.2.getD k (0,[])).1=s-g.1 then cntR g w (g.2.2.2.getD k (0,[])).2 i j else 0) v)) (fun t=>((g.2.2.2.length:Int)-t.2.1).toNat) ⟨0,rfl,by omega,h0,capV_zero⟩ ?_
 rintro ⟨n,v',kn⟩ ⟨v,e,hv,hk,hn⟩ X hX
 dsimp only at e hk hn hX
 subst e
 by_cases hlt:v<g.2.2.2.length
 ·refine step n v kn X hlt hk (fun hname r kn' hk' hr=>VC83_cap hn hr fun v' hv'=>hX _ ⟨v+1,by simp,by omega,hk',?_⟩ (by dsimp only;omega)) (fun hname=>hX _ ⟨v+1,by simp,by omega,hk,?_⟩ (by dsimp only;omega))
  ·rw [sumTo_succ,if_pos hname];exact hv'
  ·rw [sumTo_succ,if_neg hname];exact hn
 ·have e:v=g.2.2.2.length:=by omega
  subst e
  exact stop n kn X hk (by rw [cnt_name hp hs hj];exact hn)
theorem sym_ok {s:Int} {i j:Nat} (hs:s<g.1) (hi:j=i+1→i<w.length) {P:Int→Prop} (h:∀ v,CapV v (cntS g w s i j)→P v) :
  ((decide ((j:Int)=(i:Int)+1)&&decide (w.getD i 0=s))=true→P 1)∧((decide ((j:Int)=(i:Int)+1)&&decide (w.getD i 0=s))=false→P 0):=by
 constructor
 ·intro hc
  simp only [Bool.and_eq_true,decide_eq_true_eq] at hc
  refine h 1 ?_
  rw [cnt_sym hs,if_pos ⟨by omega,by rw [getD_opt (d:=0) (hi (by omega)),hc.2]⟩]
  exact capV_one
 ·intro hc
  refine h 0 ?_
  rw [cnt_sym hs,if_neg]
  ·exact capV_zero
  ·rintro ⟨h1,h2⟩
   rw [getD_opt (d:=0) (hi h1)] at h2
   have:((decide ((j:Int)=(i:Int)+1)&&decide (w.getD i 0=s))=true):=by
    simp only [Bool.and_eq_true,decide_eq_true_eq]
    exact ⟨by omega,by simpa using h2⟩
   rw [this] at hc
   cases hc
theorem mean_sign {s:Int} {i j:Nat} : MeanC g w (-1) s (i:Int) (j:Int)=cntS g w s i j:=by
 unfold MeanC
 rw [if_pos rfl,Int.toNat_natCast,Int.toNat_natCast]
theorem mean_row {c r i j:Nat} : MeanC g w (c:Int) (r:Int) (i:Int) (j:Int)=cntR g w ((g.2.2.2.getD c (0,[])).2.drop r) i j:=by
 unfold MeanC
 rw [if_neg (by omega)]
 simp only [Int.toNat_natCast]
set_option maxHeartbeats 4000000 in
theorem row_of (hg:GoodG g) (hw:GoodW g.1 w) (hp:Prop1 g):∀ (f:Nat) (c rule i j:Nat) (kn:Kn) (K:Int×Kn→Prop),2*(j-i)+(if rule=0 then 0 else 1)<f→c<g.2.2.2.length→rule<(g.2.2.2.getD c (0,[])).2.length→i≤j→j≤w.length→KnOk g w kn →
  (∀ v kn',KnOk g w kn'→CapV v (cntR g w ((g.2.2.2.getD c (0,[])).2.drop rule) i j)→K (v,kn'))→VCc72_it g.1 g.2.1 g.2.2.1 g.2.2.2 w f (c:Int) (rule:Int) (i:Int) (j:Int) kn K:=by
 intro f
 induction f with
 | zero=>intro c rule i j kn K h;omega
 | succ f ih =>
  intro c rule i j kn K hf hc hr hij hj hk hK
  have hk3:=hg.k
  have hn5:=hg.n
  have hfew:=hg.few
  have hw12:=hw.1
  have hmem:g.2.2.2.getD c (0,[])∈g.2.2.2:=getD_mem hc
  have hshort:=hg.short _ hmem
  have hright:=hg.right _ hmem
  have hcp:=hp _ hmem
  show VCc72 g.1 g.2.1 g.2.2.1 g.2.2.2 w (VCc72_it g.1 g.2.1 g.2.2.1 g.2.2.2 w f) (c:Int) (rule:Int) (i:Int) (j:Int) kn K
  unfold VCc72
  simp only [Int.toNat_natCast]
  have hdrop1:(g.2.2.2.getD c (0,[])).2.drop (rule+1)=((g.2.2.2.getD c (0,[])).2.drop rule).drop 1:=by rw [List.drop_drop]
  have hlt:((g.2.2.2.getD c (0,[])).2.drop rule).length=(g.2.2.2.getD c (0,[])).2.length-rule:=List.length_drop
  have hsub:∀ s∈(g.2.2.2.getD c (0,[])).2.drop rule,0≤s∧s<g.1+g.2.1:=fun s hs=>hright s (List.mem_of_mem_drop hs)
  have hlone:rule=0→∀ s,(g.2.2.2.getD c (0,[])).2.drop rule=[s]→s<g.1:=by
   intro e s h
   rw [e,List.drop_zero] at h
   exact hcp.2 s h
  refine ⟨⟨by omega,by omega⟩,⟨by omega,by omega⟩,by unfold InR;omega,fun hshorter=>?_,fun hlong=>?_⟩
  ·simp only [decide_eq_true_eq] at hshorter
   refine hK 0 kn hk ?_
   rw [cnt_short hp (by omega)]
   exact capV_zero
  simp only [decide_eq_false_iff_not] at hlong
  obtain ⟨t,ht⟩:∃ t,(g.2.2.2.getD c (0,[])).2.drop rule=t:=⟨_,rfl⟩
  rw [ht] at hdrop1 hlt hsub hlone hK hlong
  simp only [ht]
  cases t with
  | nil=>simp only [List.length_nil] at hlt;omega
  | cons s l =>
  simp only [Int.toNat_zero,List.getD_cons_zero]
  simp only [List.drop_succ_cons,List.drop_zero] at hdrop1
  have hsr:=hsub s (List.mem_cons_self)
  refine ⟨fun hone=>?_,fun hmany=>?_⟩
  ·simp only [decide_eq_true_eq] at hone
   have hl:l=[]:=by
    cases l with
    | nil=>rfl
    | cons a b=>simp only [List.length_cons] at hone;omega
   subst hl
   refine ⟨⟨by omega,by simp⟩,fun hsym=>?_,fun hname=>?_⟩
   ·simp only [decide_eq_true_eq] at hsym
    refine ⟨by unfold InR;omega,fun he=>?_,?_⟩
    ·simp only [decide_eq_true_eq] at he
     exact ⟨by omega,by omega⟩
    ·exact sym_ok (P:=fun v=>VCc72_k1 K v kn) hsym (by omega) (fun v hv=>hK v kn hk (by rw [cnt_one];exact hv))
   ·simp only [decide_eq_false_iff_not] at hname
    have hr0:rule≠0:=fun e=>hname (hlone e s rfl)
    rw [if_neg hr0] at hf
    refine ⟨fun hsome=>?_,fun hnone=>?_⟩
    ·obtain ⟨v,hv⟩:=Option.isSome_iff_exists.1 hsome
     rw [hv]
     have:=hk _ _ _ _ _ hv
     rw [mean_sign] at this
     exact hK v kn hk (by rw [cnt_one];exact this)
    ·refine sign_loop (w:=w) hp (s:=s) (i:=i) (j:=j) hname hj hk ?_ ?_
     ·intro n v kn X hv hk' hhit hmiss
      dsimp only
      unfold VCc72_l1
      simp only [Int.toNat_natCast]
      simp only [ht,Int.toNat_zero,List.getD_cons_zero]
      refine ⟨fun hb=>⟨⟨by omega,by omega⟩,by unfold InR;omega,fun he=>?_,fun hne=>?_⟩,fun hb=>?_⟩
      ·simp only [decide_eq_true_eq] at he
       have hvm:g.2.2.2.getD v (0,[])∈g.2.2.2:=getD_mem hv
       have hne:=(hp _ hvm).1
       refine ih v 0 i j kn _ (by rw [if_pos rfl];omega) hv (List.length_pos_iff.2 hne) hij hj hk' (fun r kn' hk'' hr'=>?_)
       rw [List.drop_zero] at hr'
       have:=hhit he r kn' hk'' hr'
       exact ⟨this.1,by unfold InR;omega,this.2⟩
      ·simp only [decide_eq_false_iff_not] at hne
       exact ⟨by unfold InR;omega,hmiss hne⟩
      ·simp only [decide_eq_false_iff_not] at hb
       omega
     ·intro n kn X hk' hn
      dsimp only
      unfold VCc72_l1
      simp only [Int.toNat_natCast]
      refine ⟨fun hb=>?_,fun _=>?_⟩
      ·simp only [decide_eq_true_eq] at hb
       omega
      ·unfold VCc72_k2 VCc72_k1
       simp only [Int.toNat_natCast]
       simp only [ht,Int.toNat_zero,List.getD_cons_zero]
       exact hK n _ (knOk_mset hk' (by rw [mean_sign];exact hn)) (by rw [cnt_one];exact hn)
  ·simp only [decide_eq_false_iff_not] at hmany
   have hl1:1≤l.length:=by
    cases l with
    | nil=>exact absurd rfl hmany
    | cons a b=>simp
   have hlen:(s::l).length=l.length+1:=rfl
   refine ⟨fun hsome=>?_,fun hnone=>⟨by unfold InR;omega,?_⟩⟩
   ·obtain ⟨v,hv⟩:=Option.isSome_iff_exists.1 hsome
    rw [hv]
    have:=hk _ _ _ _ _ hv
    rw [mean_row,ht] at this
    exact hK v kn hk this
   ·cases l with
    | nil=>simp at hl1
    | cons t l =>
    refine Loop.by (fun q=>∃ e:Nat,q.2.1=(e:Int)∧i+1≤e∧e≤j∧KnOk g w q.2.2∧CapV q.1 (sumTo (fun q=>cntS g w s i (q+(i+1))*cntR g w (t::l) (q+(i+1)) j) (e-(i+1)))) (fun q=>((j:Int)-q.2.1).toNat) ⟨i+1,by simp,by omega,by simp only [List.length_cons] at hlong;omega,hk,by rw [Nat.sub_self];exact capV_zero⟩ ?_
    rintro ⟨n,e',kn1⟩ ⟨e,he,hie,hej,hk1,hn⟩ X hX
    dsimp only at he hk1 hn hX
    subst he
    dsimp only
    have hk6:∀ (n':Int) (kn':Kn),e<j→KnOk g w kn'→CapV n' (sumTo (fun q=>cntS g w s i (q+(i+1))*cntR g w (t::l) (q+(i+1)) j) (e-(i+1))+cntS g w s i e*cntR g w (t::l) e j)→VCc72_k6 (e:Int) X n' kn':=by
     intro n' kn' hlt hk' hn'
     unfold VCc72_k6
     refine ⟨by unfold InR;omega,hX _ ⟨e+1,by simp,by omega,by omega,hk',?_⟩ (by dsimp only;omega)⟩
     rw [show e+1-(i+1)=(e-(i+1))+1 by omega,sumTo_succ,show e-(i+1)+(i+1)=e by omega]
     exact hn'
    have hk5:∀ (v6:Int) (kn':Kn),e<j→KnOk g w kn'→CapV v6 (cntS g w s i e)→VCc72_k5 (VCc72_it g.1 g.2.1 g.2.2.1 g.2.2.2 w f) (c:Int) (rule:Int) (j:Int) n (e:Int) X v6 kn':=by
     intro v6 kn' hlt hk' hv6
     unfold VCc72_k5
     refine ⟨fun hpos=>⟨by unfold InR;omega,?_⟩,fun hz=>?_⟩
     ·refine ih c (rule+1) e j kn' _ (by rw [if_neg (by omega)];split at hf <;> omega) hc (by have h9:(s::t::l).length=(g.2.2.2.getD c (0,[])).2.length-rule:=(by rw [←ht,List.length_drop]);simp only [List.length_cons] at h9;omega) hej hj hk' (fun r kn'' hk'' hr'=>?_)
      rw [hdrop1] at hr'
      refine VC86_cap hv6 hr' fun v hv=>?_
      exact VC83_cap hn hv fun v' hv'=>hk6 v' kn'' hlt hk'' hv'
     ·simp only [decide_eq_false_iff_not] at hz
      have h0:cntS g w s i e=0:=by unfold CapV at hv6;omega
      refine hk6 n kn' hlt hk' ?_
      rw [h0,Nat.zero_mul,Nat.add_zero]
      exact hn
    unfold VCc72_l2
    simp only [Int.toNat_natCast]
    simp only [ht,Int.toNat_zero,List.getD_cons_zero]
    refine ⟨fun hb=>⟨⟨by omega,by simp only [List.length_cons];omega⟩,fun hsym=>?_,fun hname=>?_⟩,fun hb=>?_⟩
    ·simp only [decide_eq_true_eq] at hsym hb
     refine ⟨by unfold InR;omega,fun he=>?_,?_⟩
     ·simp only [decide_eq_true_eq] at he
      exact ⟨by omega,by omega⟩
     ·exact sym_ok (P:=fun v=>VCc72_k5 (VCc72_it g.1 g.2.1 g.2.2.1 g.2.2.2 w f) (c:Int) (rule:Int) (j:Int) n (e:Int) X v kn1) hsym (by omega) (fun v hv=>hk5 v kn1 (by omega) hk1 hv)
    ·simp only [decide_eq_false_iff_not] at hname
     simp only [decide_eq_true_eq] at hb
     refine ⟨fun hsome=>?_,fun hnone=>?_⟩
     ·obtain ⟨v,hv⟩:=Option.isSome_iff_exists.1 hsome
      rw [hv]
      have:=hk1 _ _ _ _ _ hv
      rw [mean_sign] at this
      exact hk5 v kn1 (by omega) hk1 this
     ·refine sign_loop (w:=w) hp (s:=s) (i:=i) (j:=e) hname (by omega) hk1 ?_ ?_
      ·intro n2 v kn2 X3 hv hk' hhit hmiss
       dsimp only
       unfold VCc72_l3
       simp only [Int.toNat_natCast]
       simp only [ht,Int.toNat_zero,List.getD_cons_zero]
       refine ⟨fun hb=>⟨⟨by omega,by omega⟩,by unfold InR;omega,fun he=>?_,fun hne=>?_⟩,fun hb=>?_⟩
       ·simp only [decide_eq_true_eq] at he
        have hvm:g.2.2.2.getD v (0,[])∈g.2.2.2:=getD_mem hv
        have hne:=(hp _ hvm).1
        refine ih v 0 i e kn2 _ (by rw [if_pos rfl];omega) hv (List.length_pos_iff.2 hne) (by omega) (by omega) hk' (fun r kn' hk'' hr'=>?_)
        rw [List.drop_zero] at hr'
        have:=hhit he r kn' hk'' hr'
        exact ⟨this.1,by unfold InR;omega,this.2⟩
       ·simp only [decide_eq_false_iff_not] at hne
        exact ⟨by unfold InR;omega,hmiss hne⟩
       ·simp only [decide_eq_false_iff_not] at hb
        omega
      ·intro n2 kn2 X3 hk' hn2
       dsimp only
       unfold VCc72_l3
       simp only [Int.toNat_natCast]
       refine ⟨fun hb=>?_,fun _=>?_⟩
       ·simp only [decide_eq_true_eq] at hb
        omega
       ·unfold VCc72_k7
        simp only [Int.toNat_natCast]
        simp only [ht,Int.toNat_zero,List.getD_cons_zero]
        exact hk5 n2 _ (by omega) (knOk_mset hk' (by rw [mean_sign];exact hn2)) hn2
    ·simp only [decide_eq_false_iff_not] at hb
     have ej:e=j:=by omega
     subst ej
     unfold VCc72_k4
     have hfin:CapV n (cntR g w (s::t::l) i e):=by
      rw [cnt_two]
      exact hn
     exact hK n _ (knOk_mset hk1 (by rw [mean_row,ht];exact hfin)) hfin
end
end Dec
namespace Dec
open Go Go.Proofs Cfg
def rangesL:Int→List Int→List (Int×Int)
 | _,[]=>[]
 | f,e::es=>(f,e)::rangesL e es
theorem VC70_of {fromv:Int} {ends:List Int} {K:List (Int×Int)→Prop} (hl:ends.length≤100) (h:K (rangesL fromv ends)):VC70 fromv ends K:=by
 unfold VC70
 refine Loop.by (fun t:Int×Int×List (Int×Int)=>∃ v:Nat,t.2.1=(v:Int)∧v≤ends.length∧t.2.2.length=v∧t.2.2++rangesL t.1 (ends.drop v)=rangesL fromv ends) (fun t=>((ends.length:Int)-t.2.1).toNat) ⟨0,rfl,by omega,rfl,by simp⟩ ?_
 rintro ⟨f,v',out⟩ ⟨v,e,hv,ho,hr⟩ X hX
 dsimp only at e ho hr hX
 subst e
 dsimp only
 unfold VC70_l1
 simp only [Int.toNat_natCast]
 refine ⟨fun hb=>?_,fun hb=>?_⟩
 ·simp only [decide_eq_true_eq] at hb
  have hv':v<ends.length:=by omega
  refine ⟨⟨by omega,by omega⟩,by (first | unfold roomW | unfold roomN);simp only [List.length_cons,List.length_nil];omega,by unfold InR;omega,hX _ ⟨v+1,by simp,by omega,by simp [ho],?_⟩ (by dsimp only;omega)⟩
  dsimp only
  rw [←hr,List.drop_eq_getElem_cons hv',getD_lt _ hv']
  simp [rangesL]
 ·simp only [decide_eq_false_iff_not] at hb
  have:v=ends.length:=by omega
  subst this
  unfold VC70_k1
  rw [List.drop_length] at hr
  simp only [rangesL,List.append_nil] at hr
  rw [hr];exact h
theorem VC54_of {sv:List Int} {K:List Int→Prop} (hl:sv.length≤100) (h:K sv):VC54 sv K:=by
 unfold VC54
 intro b hb
 refine ⟨fun e=>?_,fun _=>⟨by (first | unfold roomW | unfold roomN);simp only [List.length_nil];omega,by simpa using h⟩⟩
 rw [hb e] at h
 exact h
end Dec
namespace Dec
open Go Go.Proofs Cfg
abbrev ints (l:List Nat):List Int:=l.map Int.ofNat
abbrev Yd:=List Int→Int→List Int→Kn→(Int×List Int×Kn→Prop)→(Int×Int×List Int×Kn→Prop)→Prop
section
variable {c1 c2 c3:Int} {c4:List Rl} {c5:List Int} {c7 c8 c11 c12:Int} {c13:List Int} {Y:Yd} {parts i0 j0:Nat} {I:List (List Nat)→Int→List Int→Kn→Prop} {F:Int→Int→List Int→Kn→Prop}
theorem choose_of (hparts:1≤parts∧parts≤50) (hj:j0≤50) (hi0:i0≤50)
  (hY:∀ es rest i out kn,I (es::rest) i out kn→∀ Kt Kf,(∀ i' out' kn',I rest i' out' kn'→Kt (i',out',kn'))→(∀ k i' out' kn',F k i' out' kn'→Kf (k,i',out',kn'))→Y (ints es) i out kn Kt Kf) :
  ∀ (n p:Nat) (hv:List Nat) (from_:Nat),p<n→1≤p→hv.length+p=parts→(hv.getLast?.getD i0=from_)→from_≤50→∀ rest i out kn (K:Bool×Int×Kn×Int×List Int→Prop),I ((cutsL p from_ j0).map (hv++·)++rest) i out kn →
   (∀ i' out' kn',I rest i' out' kn'→K (true,0,kn',i',out'))→(∀ k i' out' kn',F k i' out' kn'→K (false,k,kn',i',out')) →
   VCc85y6_it (parts:Int) ((i0:Int),(j0:Int)) c1 c2 c3 c4 c5 c7 c8 c11 c12 c13 Y n (ints hv) 0 kn i out K:=by
 intro n
 induction n with
 | zero=>intro p hv from_ h;omega
 | succ n ih =>
  intro p hv from_ hpn hp1 hlen hfrom hf50 rest i out kn K hI hK hF
  show VCc85y6 (parts:Int) ((i0:Int),(j0:Int)) c1 c2 c3 c4 c5 c7 c8 c11 c12 c13 Y (VCc85y6_it (parts:Int) ((i0:Int),(j0:Int)) c1 c2 c3 c4 c5 c7 c8 c11 c12 c13 Y n) (ints hv) 0 kn i out K
  unfold VCc85y6
  have hl:(ints hv).length=hv.length:=by simp
  rw [hl]
  refine ⟨by unfold InR;omega,fun hlast=>?_,fun hmore=>?_⟩
  ·simp only [decide_eq_true_eq] at hlast
   have hp:p=1:=by omega
   subst hp
   refine VC54_of (by rw [hl];omega) ⟨by (first | unfold roomW | unfold roomN);rw [hl];simp only [List.length_cons,List.length_nil];omega,rfl,?_⟩
   have e:ints hv++[(j0:Int)]=ints (hv++[j0]):=by simp
   simp only [e]
   refine hY (hv++[j0]) rest i out kn (by simpa [cutsL] using hI) _ _ (fun i' out' kn' h=>?_) (fun k i' out' kn' h=>?_)
   ·unfold VCc85y6_k1;exact hK _ _ _ h
   ·unfold VCc85y6_k1;exact hF _ _ _ _ h
  ·simp only [decide_eq_false_iff_not] at hmore
   obtain ⟨q,rfl⟩:∃ q,p=q+2:=⟨p-2,by omega⟩
   have hk2:VCc85y6_k2 ((i0:Int),(j0:Int)) (VCc85y6_it (parts:Int) ((i0:Int),(j0:Int)) c1 c2 c3 c4 c5 c7 c8 c11 c12 c13 Y n) (ints hv) 0 kn i out K (from_:Int):=by
    unfold VCc85y6_k2
    refine ⟨by unfold InR;omega,?_⟩
    refine Loop.by (fun t:Int×Int×List Int×Int×Kn=>∃ e:Nat,t.1=(e:Int)∧from_+1≤e∧e≤60∧t.2.2.2.1=0∧I ((((List.range (j0-e)).map (· + e)).flatMap fun m=>(cutsL (q+1) m j0).map (m::·)).map (hv++·)++rest) t.2.1 t.2.2.1 t.2.2.2.2) (fun t=>((j0:Int)-t.1).toNat) ⟨from_+1,by simp,Nat.le_refl _,by omega,rfl,by rw [cutsL_succ] at hI;exact hI⟩ ?_
    rintro ⟨e',i',out',k',kn'⟩ ⟨e,he,hfe,he60,hk0,hI'⟩ X hX
    dsimp only at he hk0 hI' hX
    subst he hk0
    dsimp only
    unfold VCc85y6_l1
    refine ⟨fun hb=>?_,fun hb=>?_⟩
    ·simp only [decide_eq_true_eq] at hb
     refine VC54_of (by rw [hl];omega) ⟨by (first | unfold roomW | unfold roomN);rw [hl];simp only [List.length_cons,List.length_nil];omega,?_⟩
     have e1:ints hv++[(e:Int)]=ints (hv++[e]):=by simp
     rw [e1]
     refine ih (q+1) (hv++[e]) e (by omega) (by omega) (by simp;omega) (by simp) (by omega) ((((List.range (j0-(e+1))).map (· + (e+1))).flatMap fun m=>(cutsL (q+1) m j0).map (m::·)).map (hv++·)++rest) i' out' kn' _ ?_ (fun i2 out2 kn2 h=>?_) (fun k i2 out2 kn2 h=>?_)
     ·have e2:j0-e=(j0-(e+1))+1:=by omega
      rw [e2,List.range_succ_eq_map] at hI'
      simp only [List.map_cons,List.map_map,List.flatMap_cons,List.map_append,List.append_assoc] at hI'
      simp only [List.append_assoc,List.cons_append,List.nil_append]
      have e3:((fun x=>x+e)∘Nat.succ)=fun x=>x+(e+1):=by funext x;simp only [Function.comp];omega
      rw [e3,Nat.zero_add] at hI'
      have e4:(cutsL (q+1) e j0).map ((fun x=>hv++x)∘fun x=>e::x)=(cutsL (q+1) e j0).map fun x=>hv++e::x:=rfl
      rw [e4] at hI'
      exact hI'
     ·unfold VCc85y6_k4
      exact ⟨fun h=>(by cases h),fun _=>⟨by unfold InR;omega,hX _ ⟨e+1,by simp,by omega,by omega,rfl,h⟩ (by dsimp only;omega)⟩⟩
     ·unfold VCc85y6_k4
      exact ⟨fun _=>hF _ _ _ _ h,fun h=>(by cases h)⟩
    ·simp only [decide_eq_false_iff_not] at hb
     unfold VCc85y6_k3
     have e2:j0-e=0:=by omega
     rw [e2] at hI'
     exact hK _ _ _ (by simpa using hI')
   refine ⟨fun hb=>?_,fun hb=>?_⟩
   ·simp only [decide_eq_true_eq] at hb
    refine ⟨by unfold InR;omega,⟨by omega,by omega⟩,?_⟩
    have e1:(ints hv).getD (((hv.length:Int)-1)).toNat 0=(from_:Int):=by
     rw [show ((hv.length:Int)-1).toNat=hv.length-1 by omega,←hfrom,List.getLast?_eq_getElem?,List.getD_eq_getElem?_getD,List.getElem?_map,List.getElem?_eq_getElem (show hv.length-1<hv.length by omega)]
     rfl
    rw [e1]
    exact hk2
   ·simp only [decide_eq_false_iff_not] at hb
    have:hv=[]:=List.length_eq_zero_iff.1 (by omega)
    subst this
    have e0:i0=from_:=by simpa using hfrom
    rw [←e0] at hk2
    exact hk2
end
end Dec
namespace Dec
open Go Go.Proofs Cfg
theorem getD_append_l {α:Type} {a b:List α} {i:Nat} {d:α} (h:i<a.length):(a++b).getD i d=a.getD i d:=by
 rw [List.getD_eq_getElem?_getD,List.getD_eq_getElem?_getD,List.getElem?_append_left h]
theorem getD_append_r {α:Type} {a b:List α} {i:Nat} {d:α} (h:a.length≤i):(a++b).getD i d=b.getD (i-a.length) d:=by
 rw [List.getD_eq_getElem?_getD,List.getD_eq_getElem?_getD,List.getElem?_append_right h]
theorem getD_map' {α β:Type} {a:List α} {f:α→β} {i:Nat} {d:α} {e:β} (h:i<a.length):(a.map f).getD i e=f (a.getD i d):=by
 rw [List.getD_eq_getElem?_getD,List.getD_eq_getElem?_getD,List.getElem?_map,List.getElem?_eq_getElem h]
 rfl
theorem prod_getD (B:List (List Int)):∀ (A:List (List Int)) (i:Nat),i<A.length*B.length→(A.flatMap fun a=>B.map (a++·)).getD i []=A.getD (i / B.length) []++B.getD (i % B.length) []
 | [],i,h=>by simp at h
 | x::A,i,h=>by
  rw [List.flatMap_cons]
  simp only [List.length_cons,Nat.add_mul,Nat.one_mul] at h
  by_cases hi:i<B.length
  ·rw [getD_append_l (by simpa using hi),getD_map' (d:=[]) hi,Nat.div_eq_of_lt hi,Nat.mod_eq_of_lt hi]
   rfl
  ·have hB:0<B.length:=by
    refine Nat.pos_of_ne_zero fun e=>?_
    rw [e,Nat.mul_zero] at h
    omega
   rw [getD_append_r (by simp;omega),List.length_map,prod_getD B A (i-B.length) (by omega)]
   have e1:i / B.length=(i-B.length) / B.length+1:=by
    rw [Nat.div_eq i,if_pos ⟨hB,by omega⟩]
   have e2:i % B.length=(i-B.length) % B.length:=Nat.mod_eq_sub_mod (by omega)
   rw [e1,e2,List.getD_cons_succ]
end Dec
namespace Dec
open Go Go.Proofs Cfg
section
variable {g:Gr} {w:List Int}
theorem sign_all (hg:GoodG g) (hw:GoodW g.1 w) (hp:Prop1 g) {s:Int} (hs0:0≤s∧s<g.1+g.2.1) {a b:Nat} (hab:a≤b) (hb:b≤w.length) {K:Int×Kn→Prop} {kn:Kn} (hk:KnOk g w kn) (hP:∀ v kn',KnOk g w kn'→CapV v (cntS g w s a b)→K (v,kn')) :
  VCcr68 g.1 g.2.1 g.2.2.1 g.2.2.2 w s (a:Int) (b:Int) kn K:=by
 have hK:=hg.k
 have hN:=hg.n
 have hw12:=hw.1
 have hfew:=hg.few
 refine ⟨1,?_⟩
 show VCc68 g.1 g.2.1 g.2.2.1 g.2.2.2 w (VCc68_it g.1 g.2.1 g.2.2.1 g.2.2.2 w 0) s (a:Int) (b:Int) kn K
 unfold VCc68
 simp only [Int.toNat_natCast]
 refine ⟨fun hsym=>?_,fun hname=>?_⟩
 ·simp only [decide_eq_true_eq] at hsym
  refine ⟨by unfold InR;omega,fun he=>?_,sym_ok (P:=fun v=>K (v,kn)) hsym (by omega) (fun v hv=>hP v kn hk hv)⟩
  simp only [decide_eq_true_eq] at he
  exact ⟨by omega,by omega⟩
 ·simp only [decide_eq_false_iff_not] at hname
  refine ⟨fun hsome=>?_,fun _=>?_⟩
  ·obtain ⟨v,hv⟩:=Option.isSome_iff_exists.1 hsome
   rw [hv]
   have:=hk _ _ _ _ _ hv
   rw [mean_sign] at this
   exact hP v kn hk this
  ·refine sign_loop (w:=w) hp (s:=s) (i:=a) (j:=b) hname hb hk ?_ ?_
   ·intro n v kn X hv hk' hhit hmiss
    dsimp only
    unfold VCc68_l1 VCc68_k2
    simp only [Int.toNat_natCast]
    refine ⟨fun hb=>⟨⟨by omega,by omega⟩,by unfold InR;omega,fun he=>?_,fun hne=>?_⟩,fun hb=>?_⟩
    ·simp only [decide_eq_true_eq] at he
     have hvm:g.2.2.2.getD v (0,[])∈g.2.2.2:=getD_mem hv
     have hne:=(hp _ hvm).1
     refine ⟨2*w.length+1,row_of hg hw hp _ v 0 a b kn _ (by rw [if_pos rfl];omega) hv (List.length_pos_iff.2 hne) hab (by omega) hk' (fun r kn' hk'' hr'=>?_)⟩
     rw [List.drop_zero] at hr'
     have:=hhit he r kn' hk'' hr'
     exact ⟨this.1,by unfold InR;omega,this.2⟩
    ·simp only [decide_eq_false_iff_not] at hne
     exact ⟨by unfold InR;omega,hmiss hne⟩
    ·simp only [decide_eq_false_iff_not] at hb
     omega
   ·intro n kn X hk' hn'
    dsimp only
    unfold VCc68_l1 VCc68_k1
    simp only [Int.toNat_natCast]
    refine ⟨fun hb=>?_,fun _=>hP n _ (knOk_mset hk' (by rw [mean_sign];exact hn')) hn'⟩
    simp only [decide_eq_true_eq] at hb
    omega
end
end Dec
namespace Dec
open Go Go.Proofs Cfg
def Chain (n:Nat):Nat→List Nat→Prop
 | _,[]=>True
 | a,e::es=>a≤e∧e≤n∧Chain n e es
def ManyBody (c0 c1 c2:Int) (c3:List Rl) (c4:LI) (L:LI) (RL:List (Int×Int)) (E:Int→Kn→Prop) (n v12:Int) (kn:Kn) (X:Int×Int×Kn→Prop):Prop :=
 (((decide (v12<(L.length:Int)))=true→(inIdx v12 L.length∧(inIdx v12 RL.length∧VCcr68 c0 c1 c2 c3 c4 (L.getD (v12).toNat (0:Int)) ((RL.getD (v12).toNat ((0:Int),(0:Int))).1) ((RL.getD (v12).toNat ((0:Int),(0:Int))).2) kn (fun q=>VC86 n q.1 (fun (r:Int)=>(InR (v12+(1:Int))∧X (r,(v12+(1:Int)),q.2)))))))∧((decide (v12<(L.length:Int)))=false→E n kn))
section
variable {g:Gr} {w:List Int}
theorem many_loop (hg:GoodG g) (hw:GoodW g.1 w) (hp:Prop1 g) {L:LI} (hL:∀ s∈L,0≤s∧s<g.1+g.2.1) (hL4:L.length≤4) {a:Nat} {es:List Nat} (hes:es.length=L.length) (hch:Chain w.length a es) {kn:Kn} (hk:KnOk g w kn) {E:Int→Kn→Prop}
  (hE:∀ v kn',KnOk g w kn'→CapV v (prodT (SG g w) L a es).length→E v kn'):Loop (σ:=Int×Int×Kn) (fun t X=>ManyBody g.1 g.2.1 g.2.2.1 g.2.2.2 w L (rangesL (a:Int) (ints es)) E t.1 t.2.1 t.2.2 X) ((1:Int),(0:Int),kn):=by
 refine Loop.by (fun t=>∃ v:Nat,t.2.1=(v:Int)∧v≤L.length∧KnOk g w t.2.2∧∃ av m:Nat,Chain w.length av (es.drop v)∧(rangesL (a:Int) (ints es)).drop v=rangesL (av:Int) (ints (es.drop v))∧CapV t.1 m∧m*(prodT (SG g w) (L.drop v) av (es.drop v)).length=(prodT (SG g w) L a es).length) (fun t=>((L.length:Int)-t.2.1).toNat) ⟨0,rfl,by omega,hk,a,1,hch,by simp,capV_one,by simp⟩ ?_
 rintro ⟨n,v',kn1⟩ ⟨v,e,hv,hk1,av,m,h1,h2,h3,h4⟩ X hX
 dsimp only at e hk1 h3 hX
 subst e
 dsimp only
 unfold ManyBody
 simp only [Int.toNat_natCast]
 refine ⟨fun hb=>?_,fun hb=>?_⟩
 ·simp only [decide_eq_true_eq] at hb
  have hvl:v<L.length:=by omega
  have hve:v<es.length:=by omega
  have eL:L.drop v=L.getD v 0::L.drop (v+1):=by rw [List.drop_eq_getElem_cons hvl,getD_lt _ hvl]
  have eE:es.drop v=es.getD v 0::es.drop (v+1):=by rw [List.drop_eq_getElem_cons hve,getD_lt _ hve]
  obtain ⟨s,hs⟩:∃ s,L.getD v 0=s:=⟨_,rfl⟩
  obtain ⟨q,hq⟩:∃ q,es.getD v 0=q:=⟨_,rfl⟩
  rw [hs] at eL
  rw [hq] at eE
  rw [eL,eE,prodT_len] at h4
  rw [eE] at h1 h2
  obtain ⟨c1,c2,c3⟩:=h1
  have h2':(rangesL (a:Int) (ints es)).drop v=((av:Int),(q:Int))::rangesL (q:Int) (ints (es.drop (v+1))):=h2
  have hRv:v<(rangesL (a:Int) (ints es)).length:=by
   refine Nat.lt_of_not_le fun hle=>?_
   rw [List.drop_eq_nil_of_le hle] at h2'
   cases h2'
  have eR:=List.drop_eq_getElem_cons hRv
  rw [h2'] at eR
  injection eR with eR1 eR2
  rw [hs,getD_lt _ hRv,←eR1]
  refine ⟨⟨by omega,by omega⟩,⟨by omega,by omega⟩,sign_all hg hw hp (hL s (by rw [←hs];exact getD_mem hvl)) c1 c2 hk1 fun v6 kn' hk' hv6=>?_⟩
  refine VC86_cap h3 hv6 fun r hr=>⟨by unfold InR;omega,hX _ ⟨v+1,by simp,by omega,hk',q,m*cntS g w s av q,c3,eR2.symm,hr,?_⟩ (by dsimp only;omega)⟩
  rw [←h4,Nat.mul_assoc]
  rfl
 ·simp only [decide_eq_false_iff_not] at hb
  have:v=L.length:=by omega
  subst this
  rw [List.drop_length] at h4
  have:m=(prodT (SG g w) L a es).length:=by simpa [prodT] using h4
  rw [this] at h3
  exact hE n kn1 hk1 h3
theorem many_of (hg:GoodG g) (hw:GoodW g.1 w) (hp:Prop1 g) {L:LI} (hL:∀ s∈L,0≤s∧s<g.1+g.2.1) (hL4:L.length≤4) {a:Nat} {es:List Nat} (hes:es.length=L.length) (hch:Chain w.length a es) {kn:Kn} (hk:KnOk g w kn) {K:Int×Kn→Prop}
  (hK:∀ v kn',KnOk g w kn'→CapV v (prodT (SG g w) L a es).length→K (v,kn')):VCcr71 g.1 g.2.1 g.2.2.1 g.2.2.2 w L (rangesL (a:Int) (ints es)) kn K :=
 ⟨1,many_loop hg hw hp hL hL4 hes hch hk (E:=fun v kn=>K (v,kn)) hK⟩
end
end Dec
namespace Dec
open Go Go.Proofs Cfg
section
variable {g:Gr} {w:List Int}
theorem prod_steps {S:Int→Nat→Nat→List (List Int)} (hS:∀ s i j a,a∈S s i j→a.length+1≤2*(j-i)):∀ (l:List Int) (i j:Nat),i≤j→∀ es∈cutsL l.length i j,∀ a,a∈prodT S l i es→a.length+l.length≤2*(j-i)
 | [],i,j,hij,es,he,a,ha=>by simp [cutsL] at he
 | [s],i,j,hij,es,he,a,ha=>by
  simp [cutsL] at he
  subst he
  simp only [prodT,List.mem_flatMap] at ha
  obtain ⟨b,hb,h2⟩:=ha
  have:=hS s i j b hb
  have e:a=b:=by simpa using h2
  subst e
  simp only [List.length_cons,List.length_nil]
  omega
 | s::t::l,i,j,hij,es,he,a,ha=>by
  rw [show (s::t::l).length=l.length+2 from rfl,cutsL_succ,List.mem_flatMap] at he
  obtain ⟨m,hm,he⟩:=he
  obtain ⟨q,hq,rfl⟩:=List.mem_map.1 he
  obtain ⟨z,hz,rfl⟩:=List.mem_map.1 hm
  have hz':=List.mem_range.1 hz
  have ha':a∈(S s i (z+(i+1))).flatMap fun b=>(prodT S (t::l) (z+(i+1)) q).map (b++·):=ha
  obtain ⟨b,hb,h2⟩:=List.mem_flatMap.1 ha'
  obtain ⟨c,hc,rfl⟩:=List.mem_map.1 h2
  have h3:=prod_steps hS (t::l) (z+(i+1)) j (by omega) q hq c hc
  have h4:=hS s i _ b hb
  simp only [List.length_cons,List.length_append] at h3 ⊢
  omega
theorem sgn_steps (hp:Prop1 g):∀ (f:Nat) (s:Int) (i j:Nat) (a:List Int),a∈sgnT g.1 g.2.2.2 w f s i j→a.length+1≤2*(j-i)
 | f,s,i,j,a,h=>by
  have hlt:=sgn_lt hp f s i j a h
  by_cases hs:s<g.1
  ·rw [sgnT_sym hs] at h
   split at h
   ·have e:a=[]:=by simpa using h
    subst e
    simp only [List.length_nil];omega
   ·cases h
  ·cases f with
   | zero=>rw [sgnT,if_neg hs] at h;cases h
   | succ f =>
    obtain ⟨k,hk,_,a',h3,rfl⟩:=mem_name hs h
    obtain ⟨h5,h6⟩:=hp _ (getD_mem (d:=((0:Int),([]:List Int))) hk)
    obtain ⟨es,h7,h8⟩:=List.mem_flatMap.1 h3
    have h9:=prod_steps (fun s i j a h=>sgn_steps hp f s i j a h) _ i j (by omega) es h7 a' h8
    simp only [List.length_cons]
    cases hr:(g.2.2.2.getD k (0,[])).2 with
    | nil=>exact absurd hr h5
    | cons x l =>
     cases l with
     | nil =>
      have hx:=h6 x hr
      rw [hr] at h7 h8
      simp [cutsL] at h7
      subst h7
      simp only [prodT,List.mem_flatMap] at h8
      obtain ⟨b,hb,h2⟩:=h8
      rw [sgnT_sym hx] at hb
      split at hb
      ·have e1:b=[]:=by simpa using hb
       have e2:a'=b:=by simpa using h2
       rw [e2,e1];simp only [List.length_nil];omega
      ·cases hb
     | cons y l =>
      rw [hr] at h9
      simp only [List.length_cons] at h9
      omega
end
end Dec
namespace Dec
open Go Go.Proofs Cfg
def SC:Nat→List Nat→Nat→Prop
 | a,[],b=>a≤b
 | a,e::es,b=>a<e∧e≤b∧SC e es b
theorem cuts_sc:∀ (n a b:Nat) (es:List Nat),a<b→es∈cutsL n a b→SC a es b
 | 0,_,_,es,_,h=>by simp [cutsL] at h
 | 1,a,b,es,hab,h=>by
  simp [cutsL] at h
  subst h
  exact ⟨hab,Nat.le_refl _,Nat.le_refl _⟩
 | n+2,a,b,es,hab,h=>by
  rw [cutsL_succ,List.mem_flatMap] at h
  obtain ⟨m,hm,h⟩:=h
  obtain ⟨z,hz,rfl⟩:=List.mem_map.1 hm
  have hz':=List.mem_range.1 hz
  obtain ⟨t,ht,rfl⟩:=List.mem_map.1 h
  exact ⟨by omega,by omega,cuts_sc (n+1) _ b t (by omega) ht⟩
theorem SC.le:∀ {es:List Nat} {a b:Nat},SC a es b→a≤b
 | [],_,_,h=>h
 | _::_,_,_,h=>Nat.le_trans (Nat.le_of_lt h.1) h.2.1
theorem SC.chain {N:Nat} : ∀ {es:List Nat} {a b:Nat},SC a es b→b≤N→Chain N a es
 | [],_,_,_,_=>trivial
 | _::_,_,_,h,hb=>⟨Nat.le_of_lt h.1,Nat.le_trans h.2.1 hb,SC.chain h.2.2 hb⟩
theorem rangesL_len:∀ (es:List Int) (a:Int),(rangesL a es).length=es.length
 | [],_=>rfl
 | e::es,_=>by simp only [rangesL,List.length_cons,rangesL_len es e]
theorem div_cap {i r:Int} {A B:Nat} (h0:0≤i) (h1:i≤1099511627776) (hlt:i.toNat<A*B) (hc:CapV r B) :
  0<r∧0≤i / r∧i / r≤1099511627776∧(i / r).toNat=i.toNat / B∧(i / r).toNat<A∧0≤i % r∧i % r≤1099511627776∧(i % r).toNat=i.toNat % B∧(i % r).toNat<B:=by
 have hB:0<B:=by
  refine Nat.pos_of_ne_zero fun e=>?_
  rw [e,Nat.mul_zero] at hlt
  omega
 have hA:0<A:=by
  refine Nat.pos_of_ne_zero fun e=>?_
  rw [e,Nat.zero_mul] at hlt
  omega
 obtain ⟨n,rfl⟩:=Int.eq_ofNat_of_zero_le h0
 simp only [Int.toNat_natCast] at hlt ⊢
 unfold CapV at hc
 by_cases hs:(B:Int)≤1099511627777
 ·have e:r=(B:Int):=by omega
  subst e
  rw [←Int.natCast_ediv,←Int.natCast_emod,Int.toNat_natCast,Int.toNat_natCast]
  have h2:n / B≤n:=Nat.div_le_self _ _
  have h3:n % B≤n:=Nat.mod_le _ _
  have h4:=(Nat.div_lt_iff_lt_mul hB).2 hlt
  have h5:=Nat.mod_lt n hB
  generalize n / B=q at *
  generalize n % B=m at *
  exact ⟨by omega,by omega,by omega,rfl,h4,by omega,by omega,rfl,h5⟩
 ·have e:r=1099511627777:=by omega
  subst e
  have e1:(n:Int) / 1099511627777=0:=Int.ediv_eq_zero_of_lt (by omega) (by omega)
  have e2:(n:Int) % 1099511627777=n:=Int.emod_eq_of_lt (by omega) (by omega)
  have e3:n / B=0:=Nat.div_eq_of_lt (by omega)
  have e4:n % B=n:=Nat.mod_eq_of_lt (by omega)
  rw [e1,e2,e3,e4]
  exact ⟨by omega,by omega,by omega,rfl,hA,by omega,by omega,by simp,by simp;omega⟩
section
variable {g:Gr} {w:List Int}
def blg (g:Gr) (w:List Int) (s:Int) (a b:Nat) (k:Nat):List (List Int):=if (g.2.2.2.getD k (0,[])).1=s-g.1 then (rowT (SG g w) (g.2.2.2.getD k (0,[])).2 a b).map ((k:Int)::·) else []
def from_ (g:Gr) (w:List Int) (s:Int) (a b:Nat) (v:Nat):List (List Int):=((List.range g.2.2.2.length).drop v).flatMap (blg g w s a b)
theorem sg_blk (hp:Prop1 g) {s:Int} (hs:¬s<g.1) {a b:Nat} (hb:b≤w.length):SG g w s a b=from_ g w s a b 0:=by
 unfold SG from_
 rw [sgnT_name hs,List.drop_zero]
 refine flatMap_congr' fun k hk=>?_
 have hk':=List.mem_range.1 hk
 unfold blg
 rw [row_stable hp (getD_mem hk') (by omega)]
theorem from_succ {s:Int} {a b v:Nat} (hv:v<g.2.2.2.length):from_ g w s a b v=blg g w s a b v++from_ g w s a b (v+1):=by
 unfold from_
 have hl:v<(List.range g.2.2.2.length).length:=by simpa using hv
 rw [List.drop_eq_getElem_cons hl,List.flatMap_cons,List.getElem_range]
theorem from_end {s:Int} {a b:Nat} : from_ g w s a b g.2.2.2.length=[]:=by
 unfold from_
 rw [List.drop_eq_nil_of_le (by simp)]
 rfl
def TLs (g:Gr) (w:List Int) (s:Int) (a b v:Nat) (L:List (List Nat)):List (List Int):=(L.flatMap fun es=>(prodT (SG g w) (g.2.2.2.getD v (0,[])).2 a es).map ((v:Int)::·))++from_ g w s a b (v+1)
theorem blk_hit {s:Int} {a b v:Nat} (h:(g.2.2.2.getD v (0,[])).1=s-g.1):blg g w s a b v++from_ g w s a b (v+1)=TLs g w s a b v (cutsL (g.2.2.2.getD v (0,[])).2.length a b):=by
 unfold blg TLs rowT
 rw [if_pos h,List.map_flatMap]
theorem TLs_cons {s:Int} {a b v:Nat} {es:List Nat} {L:List (List Nat)} : TLs g w s a b v (es::L)=(prodT (SG g w) (g.2.2.2.getD v (0,[])).2 a es).map ((v:Int)::·)++TLs g w s a b v L:=by
 unfold TLs
 rw [List.flatMap_cons,List.append_assoc]
theorem TLs_nil {s:Int} {a b v:Nat} : TLs g w s a b v []=from_ g w s a b (v+1):=by
 unfold TLs;simp
theorem toNat_sub {i n:Int} {m:Nat} (h:n≤i) (hn:n=(m:Int)):(i-n).toNat=i.toNat-m:=by omega
def NthI (g:Gr) (w:List Int) (T:List Int) (s:Int) (a b v:Nat) (L:List (List Nat)) (i:Int) (out:List Int) (kn:Kn):Prop :=
 KnOk g w kn∧out=[]∧0≤i∧i≤1099511627776∧i.toNat<(TLs g w s a b v L).length∧T=(TLs g w s a b v L).getD i.toNat []∧∀ es∈L,es∈cutsL (g.2.2.2.getD v (0,[])).2.length a b
def NthF (g:Gr) (w:List Int) (T:List Int) (k i:Int) (out:List Int) (kn:Kn):Prop:=k=1∧KnOk g w kn∧out=T
set_option maxHeartbeats 4000000 in
theorem nth_of (hg:GoodG g) (hw:GoodW g.1 w) (hp:Prop1 g):∀ (f:Nat) (s:Int) (a b:Nat) (i:Int) (kn:Kn) (K:List Int×Kn→Prop),(if s<g.1 then 1 else b-a+2)≤f→0≤s∧s<g.1+g.2.1→a≤b→b≤w.length→0≤i→i≤1099511627776→i.toNat<cntS g w s a b→KnOk g w kn →
  (∀ kn',KnOk g w kn'→K ((SG g w s a b).getD i.toNat [],kn'))→VCc58_it g.1 g.2.1 g.2.2.1 g.2.2.2 w f s (a:Int) (b:Int) i kn K:=by
 intro f
 induction f with
 | zero=>intro s a b i kn K h;split at h <;> omega
 | succ f ih =>
  intro s a b i kn K hf hs hab hb hi0 hi1 hi hk hK
  have hk3:=hg.k
  have hn5:=hg.n
  have hfew:=hg.few
  have hw12:=hw.1
  show VCc58 g.1 g.2.1 g.2.2.1 g.2.2.2 w (VCc58_it g.1 g.2.1 g.2.2.1 g.2.2.2 w f) s (a:Int) (b:Int) i kn K
  unfold VCc58
  refine ⟨fun hsym=>?_,fun hname=>?_⟩
  ·simp only [decide_eq_true_eq] at hsym
   have h0:=hK kn hk
   have e:(SG g w s a b).getD i.toNat []=[]:=by
    unfold SG
    rw [sgnT_sym hsym]
    split
    ·cases i.toNat <;> rfl
    ·rfl
   rw [e] at h0
   exact h0
  ·simp only [decide_eq_false_iff_not] at hname
   rw [if_neg hname] at hf
   have hin:(SG g w s a b).getD i.toNat []∈SG g w s a b:=getD_mem hi
   have hlt:a<b:=sgn_lt hp _ s a b _ hin
   obtain ⟨T,hT⟩:∃ T,(SG g w s a b).getD i.toNat []=T:=⟨_,rfl⟩
   rw [hT] at hK hin
   have hT24:T.length≤24:=by
    have:=sgn_steps hp _ s a b _ hin
    omega
   unfold cntS at hi
   rw [sg_blk hp hname hb] at hT hi
   refine Loop.by (fun t:Int×Int×List Int×Kn=>∃ v:Nat,t.1=(v:Int)∧v≤g.2.2.2.length∧t.2.2.1=[]∧KnOk g w t.2.2.2∧0≤t.2.1∧t.2.1≤1099511627776∧t.2.1.toNat<(from_ g w s a b v).length∧T=(from_ g w s a b v).getD t.2.1.toNat []) (fun t=>((g.2.2.2.length:Int)-t.1).toNat) ⟨0,rfl,by omega,rfl,hk,hi0,hi1,hi,hT.symm⟩ ?_
   rintro ⟨v',i2,out,kn1⟩ ⟨v,e,hv,ho,hk1,h20,h21,h22,h23⟩ X hX
   dsimp only at e ho hk1 h20 h21 h22 h23 hX
   subst e ho
   dsimp only
   unfold VCc58_l1
   simp only [Int.toNat_natCast]
   refine ⟨fun hb'=>?_,fun hb'=>?_⟩
   ·simp only [decide_eq_true_eq] at hb'
    have hvl:v<g.2.2.2.length:=by omega
    rw [from_succ hvl] at h22 h23
    have hmem:g.2.2.2.getD v (0,[])∈g.2.2.2:=getD_mem hvl
    have hshort:=hg.short _ hmem
    have hright:=hg.right _ hmem
    obtain ⟨hne,hlone⟩:=hp _ hmem
    have hpos:0<(g.2.2.2.getD v (0,[])).2.length:=List.length_pos_iff.2 hne
    refine ⟨⟨by omega,by omega⟩,by unfold InR;omega,fun hmiss=>?_,fun hhit=>?_⟩
    ·simp only [Bool.not_eq_true',decide_eq_false_iff_not] at hmiss
     have eb:blg g w s a b v=[]:=by unfold blg;rw [if_neg hmiss]
     rw [eb,List.nil_append] at h22 h23
     unfold VCc58_k2
     exact ⟨by unfold InR;omega,hX _ ⟨v+1,by simp,by omega,rfl,hk1,h20,h21,h22,h23⟩ (by dsimp only;omega)⟩
    ·simp only [Bool.not_eq_false',decide_eq_true_eq] at hhit
     rw [blk_hit hhit] at h22 h23
     obtain ⟨L,hLe⟩:∃ L,(g.2.2.2.getD v (0,[])).2=L:=⟨_,rfl⟩
     refine ⟨L.length+1,?_⟩
     rw [hLe] at hshort hright hne hlone hpos
     have key:=choose_of (c1:=g.1) (c2:=g.2.1) (c3:=g.2.2.1) (c4:=g.2.2.2) (c5:=w) (c7:=(a:Int)) (c8:=(b:Int)) (c11:=(v:Int)) (c12:=(g.2.2.2.getD v (0,[])).1) (c13:=(g.2.2.2.getD v (0,[])).2) (Y:=VCc58_y1 g.1 g.2.1 g.2.2.1 g.2.2.2 w (VCc58_it g.1 g.2.1 g.2.2.1 g.2.2.2 w f) (a:Int) (v:Int)) (parts:=L.length) (i0:=a) (j0:=b) (I:=NthI g w T s a b v) (F:=NthF g w T) ⟨hpos,by omega⟩ (by omega) (by omega) ?_
      (L.length+1) L.length [] a (by omega) hpos (by simp) rfl (by omega) [] i2 [] kn1
     ·rw [hLe]
      rw [hLe] at key
      refine key _ ?_ (fun i' out' kn' h=>?_) (fun k i' out' kn' h=>?_)
      ·simp only [List.nil_append,List.append_nil,List.map_id']
       refine ⟨hk1,rfl,h20,h21,?_,?_,?_⟩
       ·rw [←hLe];exact h22
       ·rw [←hLe];exact h23
       ·rw [hLe];exact fun es h=>h
      ·dsimp only
       obtain ⟨q1,q2,q3,q4,q5,q6,_⟩:=h
       subst q2
       rw [TLs_nil] at q5 q6
       refine ⟨fun _=>?_,fun h=>(by cases h)⟩
       unfold VCc58_k2
       exact ⟨by unfold InR;omega,hX _ ⟨v+1,by simp,by omega,rfl,q1,q3,q4,q5,q6⟩ (by dsimp only;omega)⟩
      ·dsimp only
       obtain ⟨q1,q2,q3⟩:=h
       subst q1 q3
       exact ⟨fun h=>(by cases h),fun _=>⟨rfl,hK _ q2⟩⟩
     ·-- the body
      clear hX
      intro es rest i' out' kn' hI Kt Kf hKt hKf
      obtain ⟨q1,q2,q3,q4,q5,q6,q7⟩:=hI
      subst q2
      have hmemc:=q7 es List.mem_cons_self
      rw [TLs_cons] at q5 q6
      rw [hLe] at q5 q6 hmemc
      have hsc:=cuts_sc _ a b es hlt hmemc
      have hesl:=(cutsL_mem _ _ _ _ hmemc).1
      unfold VCc58_y1
      refine VC70_of (by rw [List.length_map];omega) ?_
      refine many_of hg hw hp (L:=(g.2.2.2.getD v (0,[])).2) (es:=es) (by rw [hLe];exact hright) (by rw [hLe];exact hshort) (by rw [hLe];exact hesl) (hsc.chain hb) q1 (fun n kn2 hk2 hn=>?_)
      rw [hLe] at hn
      dsimp only
      refine ⟨fun hskip=>?_,fun hin=>?_⟩
      ·simp only [decide_eq_true_eq] at hskip
       have hn':n=((prodT (SG g w) L a es).length:Int):=by unfold CapV at hn;omega
       have hle:(prodT (SG g w) L a es).length≤i'.toNat:=by omega
       refine ⟨by unfold InR;omega,hKt _ _ _ ⟨hk2,rfl,by omega,by omega,?_,?_,fun x hx=>q7 x (List.mem_cons_of_mem _ hx)⟩⟩
       ·rw [toNat_sub hskip hn']
        rw [List.length_append,List.length_map] at q5
        omega
       ·rw [toNat_sub hskip hn',q6,getD_append_r (by rw [List.length_map];exact hle),List.length_map]
      ·simp only [decide_eq_false_iff_not] at hin
       have hlt':i'.toNat<(prodT (SG g w) L a es).length:=by unfold CapV at hn;omega
       rw [getD_append_l (by rw [List.length_map];exact hlt'),getD_map' (d:=[]) hlt'] at q6
       refine Loop.by (fun t:Int×List Int×Int×Kn=>∃ j av:Nat,t.1=(j:Int)∧j≤L.length∧(j=0→av=a)∧(0<j→a<av)∧SC av (es.drop j) b∧(rangesL (a:Int) (ints es)).drop j=rangesL (av:Int) (ints (es.drop j))∧0≤t.2.2.1∧t.2.2.1≤1099511627776∧t.2.2.1.toNat<(prodT (SG g w) (L.drop j) av (es.drop j)).length∧T=t.2.1++(prodT (SG g w) (L.drop j) av (es.drop j)).getD t.2.2.1.toNat []∧KnOk g w t.2.2.2) (fun t=>((L.length:Int)-t.1).toNat) ⟨0,a,rfl,by omega,fun _=>rfl,fun h=>by omega,by simpa using hsc,by simp,q3,q4,by simpa using hlt',by simpa using q6,hk2⟩ ?_
       rintro ⟨j',out3,i3,kn3⟩ ⟨j,av,e,hj,hj0,hj1,c1,c2,c3,c4,c5,c6,c7⟩ X2 hX2
       dsimp only at e c3 c4 c5 c6 c7 hX2
       subst e
       dsimp only
       unfold VCc58_l2
       simp only [Int.toNat_natCast,hLe]
       refine ⟨fun hjl=>?_,fun hjl=>?_⟩
       ·simp only [decide_eq_true_eq] at hjl
        have hjL:j<L.length:=by omega
        have hje:j<es.length:=by omega
        have eL:L.drop j=L.getD j 0::L.drop (j+1):=by rw [List.drop_eq_getElem_cons hjL,getD_lt _ hjL]
        have eE:es.drop j=es.getD j 0::es.drop (j+1):=by rw [List.drop_eq_getElem_cons hje,getD_lt _ hje]
        have hsig:L.getD j 0∈L:=getD_mem hjL
        obtain ⟨sg,hsg⟩:∃ sg,L.getD j 0=sg:=⟨_,rfl⟩
        obtain ⟨q,hq⟩:∃ q,es.getD j 0=q:=⟨_,rfl⟩
        rw [hsg] at eL hsig
        rw [hq] at eE
        rw [eL,eE] at c5 c6
        rw [eE] at c1 c2
        obtain ⟨d1,d2,d3⟩:=c1
        have c2':(rangesL (a:Int) (ints es)).drop j=((av:Int),(q:Int))::rangesL (q:Int) (ints (es.drop (j+1))):=c2
        have hRj:j<(rangesL (a:Int) (ints es)).length:=by rw [rangesL_len,List.length_map];omega
        have eR:=List.drop_eq_getElem_cons hRj
        rw [c2'] at eR
        injection eR with eR1 eR2
        have hRl:(rangesL (a:Int) (ints es)).length=L.length:=by rw [rangesL_len,List.length_map];exact hesl
        rw [prodT_len] at c5
        have ec6:T=out3++((SG g w sg av q).getD (i3.toNat / (prodT (SG g w) (L.drop (j+1)) q (es.drop (j+1))).length) []++(prodT (SG g w) (L.drop (j+1)) q (es.drop (j+1))).getD (i3.toNat % (prodT (SG g w) (L.drop (j+1)) q (es.drop (j+1))).length) []):=by
         rw [c6]
         congr 1
         exact prod_getD _ _ _ c5
        have hdl:(es.drop (j+1)).length=(L.drop (j+1)).length:=by rw [List.length_drop,List.length_drop,hesl]
        have e1:((j:Int)+1).toNat=j+1:=by omega
        have hfin:∀ (restv:Int) (kn4:Kn),KnOk g w kn4→CapV restv (prodT (SG g w) (L.drop (j+1)) q (es.drop (j+1))).length→(inIdx (j:Int) (rangesL (a:Int) (ints es)).length∧(0≤i3∧0<restv)∧VCc58_it g.1 g.2.1 g.2.2.1 g.2.2.2 w f (L.getD j 0) (((rangesL (a:Int) (ints es)).getD j (0,0)).1) (((rangesL (a:Int) (ints es)).getD j (0,0)).2) (i3 / restv) kn4 (fun ret98v=>(roomW 8 (out3.length+ret98v.1.length)∧((0≤i3∧0<restv)∧(InR ((j:Int)+(1:Int))∧X2 (((j:Int)+(1:Int)),(out3++ret98v.1),(i3 % restv),ret98v.2)))))):=by
         intro restv kn4 hk4 hr
         obtain ⟨z1,z2,z3,z4,z5,z6,z7,z8,z9⟩:=div_cap c3 c4 c5 hr
         rw [getD_lt _ hRj,←eR1,hsg]
         refine ⟨⟨by omega,by omega⟩,⟨c3,z1⟩,ih sg av q (i3 / restv) kn4 _ ?_ (hright sg hsig) (by omega) (by omega) z2 z3 z5 hk4 (fun kn5 hk5=>⟨?_,⟨c3,z1⟩,by unfold InR;omega,?_⟩)⟩
         ·by_cases hsy:sg<g.1
          ·rw [if_pos hsy];omega
          ·rw [if_neg hsy]
           by_cases hj00:j=0
           ·have hav:=hj0 hj00
            subst hav
            cases hLL:L with
            | nil=>rw [hLL] at hpos;simp at hpos
            | cons x l =>
             cases l with
             | nil =>
              have:=hlone x hLL
              rw [hLL,hj00] at hsg
              simp at hsg
              omega
             | cons y l =>
              have h9:(es.drop (j+1)).length=l.length+1:=by rw [hdl,hLL,hj00];simp
              cases hd:es.drop (j+1) with
              | nil=>rw [hd] at h9;simp at h9
              | cons z t =>
               rw [hd] at d3
               have h8:=d3.1
               have h7:=d3.2.1
               omega
           ·have:=hj1 (by omega)
            omega
         ·have h9:T.length=out3.length+(((SG g w sg av q).getD (i3.toNat / (prodT (SG g w) (L.drop (j+1)) q (es.drop (j+1))).length) []).length+((prodT (SG g w) (L.drop (j+1)) q (es.drop (j+1))).getD (i3.toNat % (prodT (SG g w) (L.drop (j+1)) q (es.drop (j+1))).length) []).length):=by
           rw [ec6,List.length_append,List.length_append]
          (first | unfold roomW | unfold roomN)
          rw [z4]
          dsimp only
          omega
         ·refine hX2 _ ⟨j+1,q,by simp,by omega,fun h=>by omega,fun _=>?_,d3,eR2.symm,z6,z7,z9,?_,hk5⟩ (by dsimp only;omega)
          ·rcases Nat.eq_zero_or_pos j with h | h
           ·rw [hj0 h] at d1;exact d1
           ·exact Nat.lt_trans (hj1 h) d1
          ·dsimp only
           rw [z4,z8,List.append_assoc]
           exact ec6
        refine ⟨⟨by omega,by omega⟩,by unfold InR;omega,⟨by omega,by omega⟩,by unfold InR;omega,⟨by omega,by omega⟩,?_⟩
        rw [e1,←eR2]
        refine many_of hg hw hp (fun s hs=>hright s (List.mem_of_mem_drop hs)) (by rw [List.length_drop];omega) hdl (d3.chain hb) c7 (fun n kn4 hk4 hn4=>?_)
        exact hfin n kn4 hk4 hn4
       ·simp only [decide_eq_false_iff_not] at hjl
        have ej:j=L.length:=by omega
        subst ej
        unfold VCc58_k3
        rw [List.drop_length] at c5 c6
        have e0:i3.toNat=0:=by simpa [prodT] using c5
        rw [e0] at c6
        have e2:T=out3:=by simpa [prodT] using c6
        exact hKf _ _ _ _ ⟨rfl,c7,e2.symm⟩
   ·simp only [decide_eq_false_iff_not] at hb'
    have ev:v=g.2.2.2.length:=by omega
    subst ev
    rw [from_end] at h22
    simp at h22
end
end Dec
namespace Dec
open Go Go.Proofs Cfg
section
variable {g:Gr} {w:List Int}
def badR (k:Int) (r:Rl):Bool:=decide ((r.2.length:Int)=0)||(decide ((r.2.length:Int)=1)&&decide (k≤r.2.getD 0 0))
theorem badR_iff {k:Int} {r:Rl} : badR k r=false↔r.2≠[]∧∀ s,r.2=[s]→s<k:=by
 obtain ⟨A,l⟩:=r
 unfold badR
 rcases l with _ | ⟨x,_ | ⟨y,t⟩⟩
 ·simp
 ·simp
 ·simp only [List.length_cons]
  constructor
  ·intro _
   exact ⟨by simp,by intro s h;cases h⟩
  ·intro _
   have h1:decide (((t.length+1+1:Nat):Int)=0)=false:=by simp only [decide_eq_false_iff_not];omega
   have h2:decide (((t.length+1+1:Nat):Int)=1)=false:=by simp only [decide_eq_false_iff_not];omega
   rw [h1,h2];rfl
theorem VC55_of (hg:GoodG g) {K:Bool→Prop} (h:∀ b:Bool,(b=true↔Prop1 g)→K b):VC55 g K:=by
 have hfew:=hg.few
 unfold VC55
 refine VC38_of (badR g.1) (by omega) (fun x hx K' hK'=>?_) (h _ ?_)
 ·unfold VC65
  refine ⟨fun _ h1=>?_,hK'⟩
  simp only [decide_eq_true_eq] at h1
  exact ⟨by omega,by omega⟩
 ·rw [Bool.not_eq_true',List.any_eq_false]
  unfold Prop1
  refine forall_congr' fun r=>forall_congr' fun hr=>?_
  rw [Bool.not_eq_true,badR_iff]
abbrev cntW (g:Gr) (w:List Int):Nat:=cntS g w (g.1+g.2.2.1) 0 w.length
end
end Dec
