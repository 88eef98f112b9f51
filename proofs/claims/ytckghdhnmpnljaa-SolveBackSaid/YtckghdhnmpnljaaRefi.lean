/-
Steps of sets of positions: the plain contracts of glyph's Meets and Step. The machine of the sets of positions: the plain contract of after.subsets. Classes of the states of a machine of any size: the plain contract of after.refine (Moore).
-/
import Derived.Test.YtckghdhnmpnljaaGlyE
import Derived.Test.YtckghdhnmpnljaaSentA
set_option linter.unusedSimpArgs false
set_option linter.unusedVariables false
namespace Dec
open Go Go.Proofs Rex Gly
theorem loopI {τ:Type} {B:Int×τ→(Int×τ→Prop)→Prop} (n:Nat) (I:Nat→τ→Prop) {s0:τ} (h0:I 0 s0)
  (h:∀ i:Nat,i≤n→∀ s,I i s→∀ X:Int×τ→Prop,(∀ s',i<n→I (i+1) s'→X ((i:Int)+1,s'))→B ((i:Int),s) X):Loop B (0,s0):=by
 refine Loop.by (fun s=>∃ i:Nat,i≤n∧I i s.2∧s.1=(i:Int)) (fun s=>((n:Int)-s.1).toNat) ⟨0,by omega,h0,rfl⟩ ?_
 rintro ⟨c,s⟩ ⟨i,hi,hP,rfl⟩ X hX
 exact h i hi s hP X fun s' hlt hP'=>hX _ ⟨i+1,by omega,hP',by simp⟩ (by simp only;omega)
theorem bt_ge64 {s:Int} (hs:U64 s) {i:Nat} (hi:64≤i):bt s i=false:=by
 obtain ⟨n,hn,rfl⟩:=u64_nat hs
 simp only [bt,Int.toNat_natCast]
 exact Nat.testBit_lt_two_pow (Nat.lt_of_lt_of_le hn (show 18446744073709551616≤2 ^ i from Nat.le_trans (by decide:18446744073709551616≤2 ^ 64) (Nat.pow_le_pow_right (by omega) hi)))
theorem u64_ext {s t:Int} (hs:U64 s) (ht:U64 t) (h:∀ i,i<64→bt s i=bt t i):s=t:=by
 obtain ⟨m,hm,rfl⟩:=u64_nat hs
 obtain ⟨n,hn,rfl⟩:=u64_nat ht
 congr 1
 apply Nat.eq_of_testBit_eq
 intro i
 by_cases hi:i<64
 ·simpa [bt] using h i hi
 ·have h1:=bt_ge64 hs (i:=i) (by omega)
  have h2:=bt_ge64 ht (i:=i) (by omega)
  simp only [bt,Int.toNat_natCast] at h1 h2
  rw [h1,h2]
theorem bt_and64 {s t:Int} (hs:U64 s) (ht:U64 t) (i:Nat):bt (bAnd .u64 s t) i=(bt s i&&bt t i):=by
 obtain ⟨m,hm,rfl⟩:=u64_nat hs
 obtain ⟨n,hn,rfl⟩:=u64_nat ht
 rw [bAnd_nat64 hm hn]
 simp [bt]
theorem u64_and {s t:Int} (hs:U64 s) (ht:U64 t):U64 (bAnd .u64 s t):=by
 obtain ⟨m,hm,rfl⟩:=u64_nat hs
 obtain ⟨n,hn,rfl⟩:=u64_nat ht
 rw [bAnd_nat64 hm hn]
 exact ⟨by omega,by have:=Nat.and_le_left (n:=m) (m:=n);omega⟩
theorem set_ext {a b:List Int} (ha:SetOk a) (hb:SetOk b) (h:∀ q,mem a q=mem b q):a=b:=by
 refine ext_getD (0:Int) (ha.len.trans hb.len.symm) fun i hi=>u64_ext (ha.word i) (hb.word i) fun j hj=>?_
 have:=h (64*i+j)
 unfold mem at this
 rw [show (64*i+j) / 64=i by omega,show (64*i+j) % 64=j by omega] at this
 exact this
theorem mem_ge {a:List Int} (ha:SetOk a) {q:Nat} (hq:320≤q):mem a q=false:=by
 unfold mem
 rw [getD_ge 0 (by rw [ha.len];omega),bt_zero]
theorem VC90_of {s t:List Int} (hs:SetOk s) (ht:SetOk t) {K:Bool→Prop} (h:∀ b:Bool,(b=true↔∃ q,mem s q=true∧mem t q=true)→K b):VC90 s t K:=by
 unfold VC90
 refine loop_count 5 (fun i=>∀ j,j<i→bAnd .u64 (s.getD j 0) (t.getD j 0)=0) (by intro j hj;omega) ?_
 intro i hi hP X hX
 unfold VC90_l1
 rw [fiveA hs.len,fiveA ht.len]
 simp only [Int.toNat_natCast]
 refine ⟨fun hb=>?_,fun hb=>?_⟩
 ·simp only [decide_eq_true_eq] at hb
  refine ⟨⟨by omega,by omega⟩,⟨by omega,by omega⟩,fun hne=>h true ⟨fun _=>?_,fun _=>rfl⟩,fun he=>⟨⟨by omega,by omega⟩,hX (by omega) fun j hj=>?_⟩⟩
  ·simp only [Bool.not_eq_true',decide_eq_false_iff_not] at hne
   refine Classical.byContradiction fun hn=>hne ?_
   refine u64_ext (u64_and (hs.word i) (ht.word i)) u64_zero fun j hj=>?_
   rw [bt_zero,bt_and64 (hs.word i) (ht.word i)]
   cases h1:bt (s.getD i 0) j with
   | false=>rfl
   | true=>cases h2:bt (t.getD i 0) j with
    | false=>rfl
    | true =>
     refine absurd ⟨64*i+j,?_,?_⟩ hn
     ·unfold mem;rw [show (64*i+j) / 64=i by omega,show (64*i+j) % 64=j by omega];exact h1
     ·unfold mem;rw [show (64*i+j) / 64=i by omega,show (64*i+j) % 64=j by omega];exact h2
  ·simp only [Bool.not_eq_false',decide_eq_true_eq] at he
   by_cases hj2:j<i
   ·exact hP j hj2
   ·have:j=i:=by omega
    subst this;exact he
 ·simp only [decide_eq_false_iff_not] at hb
  unfold VC90_k1
  refine h false ⟨fun h=>(by cases h),fun ⟨q,h1,h2⟩=>?_⟩
  have hq:q<320:=Nat.lt_of_not_le fun hle=>by rw [mem_ge hs hle] at h1;cases h1
  have h0:=hP (q / 64) (by omega)
  unfold mem at h1 h2
  have h3:=bt_and64 (hs.word (q / 64)) (ht.word (q / 64)) (q % 64)
  rw [h0,bt_zero,h1,h2] at h3
  cases h3
def StepS (A:AutoT) (s:LI) (c:Int) (r:LI):Prop :=
 SetOk r∧∀ q,mem r q=true↔(q<A.1.length∧A.1.getD q 0=c∧∃ p,p<A.1.length∧mem s p=true∧Fol A.2.1 p q)
theorem VC89_of {l:List Nd} {k:Int} {A:AutoT} (hA:Aut l k A) {s:LI} (hs:SetOk s) {c:Int} {K:LI→Prop} (h:∀ r,StepS A s c r→K r):VC89 A s c K:=by
 have hlen:=hA.few
 have hll:=hA.len
 unfold VC89
 refine loopI A.1.length (fun i all=>SetOk all∧∀ q,mem all q=true↔∃ p,p<i∧mem s p=true∧Fol A.2.1 p q) ⟨empty_ok,fun q=>by
  rw [show (List.replicate 5 (0:Int))=emptyS from rfl,mem_empty]
  exact ⟨fun h=>(by cases h),fun ⟨p,h,_⟩=>by omega⟩⟩ ?_
 rintro i hi all ⟨ha,hm⟩ X hX
 unfold VC89_l2
 simp only [Int.toNat_natCast]
 refine ⟨fun hb=>?_,fun hb=>?_⟩
 ·simp only [decide_eq_true_eq] at hb
  have hil:i<A.1.length:=by omega
  rw [fiveA hs.len]
  refine VC61_of hs (by omega) ⟨fun ht=>?_,fun hf=>?_⟩
  ·have hok:=hA.ok i (by omega)
   refine ⟨⟨by omega,by omega⟩,?_⟩
   rw [fiveA ha.len,fiveA hok.len]
   refine VC102_of ha hok fun r hr hmr=>?_
   unfold VC89_k4
   refine ⟨⟨by omega,by omega⟩,?_⟩
   rw [fiveA hr.len]
   refine hX r hil ⟨hr,fun q=>?_⟩
   rw [hmr,Bool.or_eq_true,hm]
   constructor
   ·rintro (⟨p,h1,h2⟩ | h1)
    ·exact ⟨p,by omega,h2⟩
    ·exact ⟨i,by omega,ht,h1⟩
   ·rintro ⟨p,h1,h2,h3⟩
    by_cases hp:p<i
    ·exact .inl ⟨p,hp,h2,h3⟩
    ·have:p=i:=by omega
     subst this
     exact .inr h3
  ·unfold VC89_k4
   refine ⟨⟨by omega,by omega⟩,hX all hil ⟨ha,fun q=>?_⟩⟩
   rw [hm]
   constructor
   ·rintro ⟨p,h1,h2⟩
    exact ⟨p,by omega,h2⟩
   ·rintro ⟨p,h1,h2,h3⟩
    by_cases hp:p<i
    ·exact ⟨p,hp,h2,h3⟩
    ·have:p=i:=by omega
     subst this
     rw [hf] at h2;cases h2
 ·simp only [decide_eq_false_iff_not] at hb
  have hiN:i=A.1.length:=by omega
  subst hiN
  unfold VC89_k1
  refine loopI A.1.length (fun i out=>SetOk out∧∀ q,mem out q=true↔q<i∧A.1.getD q 0=c∧mem all q=true) ⟨empty_ok,fun q=>by
   rw [show (List.replicate 5 (0:Int))=emptyS from rfl,mem_empty]
   exact ⟨fun h=>(by cases h),fun ⟨h,_⟩=>by omega⟩⟩ ?_
  rintro j hj out ⟨ho,hmo⟩ Y hY
  unfold VC89_l1
  simp only [Int.toNat_natCast]
  refine ⟨fun hb=>?_,fun hb=>?_⟩
  ·simp only [decide_eq_true_eq] at hb
   have hjl:j<A.1.length:=by omega
   refine ⟨⟨by omega,by omega⟩,?_⟩
   rw [fiveA ha.len,fiveA ho.len]
   have stay:¬(A.1.getD j 0=c∧mem all j=true)→VC89_k3 (j:Int) Y out:=fun hn=>by
    unfold VC89_k3
    refine ⟨⟨by omega,by omega⟩,hY out hjl ⟨ho,fun q=>?_⟩⟩
    rw [hmo]
    constructor
    ·rintro ⟨h1,h2⟩;exact ⟨by omega,h2⟩
    ·rintro ⟨h1,h2⟩
     refine ⟨?_,h2⟩
     by_cases hq:q=j
     ·subst hq;exact absurd h2 hn
     ·omega
   have go:∀ b:Bool,(b=true↔(A.1.getD j 0=c∧mem all j=true))→((b=true→VC88 out (j:Int) fun ret47v=>VC89_k3 (j:Int) Y (a5 ret47v))∧(b=false→VC89_k3 (j:Int) Y out)):=by
    intro b hbi
    refine ⟨fun ht=>VC88_of ho (by omega) fun r hr hmr=>?_,fun hf=>stay fun hn=>by rw [hbi.2 hn] at hf;cases hf⟩
    unfold VC89_k3
    refine ⟨⟨by omega,by omega⟩,?_⟩
    rw [fiveA hr.len]
    refine hY r hjl ⟨hr,fun q=>?_⟩
    rw [hmr,Bool.or_eq_true,hmo,decide_eq_true_eq]
    have ht':=hbi.1 ht
    constructor
    ·rintro (⟨h1,h2⟩ | rfl)
     ·exact ⟨by omega,h2⟩
     ·exact ⟨by omega,ht'⟩
    ·rintro ⟨h1,h2⟩
     by_cases hq:q=j
     ·exact .inr hq.symm
     ·exact .inl ⟨by omega,h2⟩
   refine gcall_both (fun ht=>VC61_of ha (by omega) (go _ ?_)) (fun hf=>go _ ?_)
   ·rw [ht,Bool.true_and]
    simp only [decide_eq_true_eq] at ht
    exact ⟨fun h=>⟨ht,h⟩,fun h=>h.2⟩
   ·rw [hf,Bool.false_and]
    simp only [decide_eq_false_iff_not] at hf
    exact ⟨fun h=>(by cases h),fun h=>absurd h.1 hf⟩
  ·simp only [decide_eq_false_iff_not] at hb
   have hjN:j=A.1.length:=by omega
   subst hjN
   unfold VC89_k2
   rw [fiveA ho.len]
   refine h out ⟨ho,fun q=>?_⟩
   rw [hmo,hm]
end Dec
namespace Gly
open Dec Rex
variable {F:Nat→Nat→Prop} {sy:Nat→Int} {w:List Int}
theorem Ch.last {q a b r:Nat} (h:Ch F sy w q a b r):∃ c,b=c+1∧w[c]? = some (sy r)∧((a=c∧q=r)∨∃ p,Ch F sy w q a c p∧F p r):=by
 induction h with
 | one q a h=>exact ⟨a,rfl,h,.inl ⟨rfl,rfl⟩⟩
 | step q q2 a b r h hf h2 ih =>
  obtain ⟨c,e1,e2,e3⟩:=ih
  refine ⟨c,e1,e2,.inr ?_⟩
  rcases e3 with ⟨rfl,rfl⟩ | ⟨p,k1,k2⟩
  ·exact ⟨q,.one q a h,hf⟩
  ·exact ⟨p,.step q q2 a c p h hf k1,k2⟩
end Gly
namespace Dec
open Go Go.Proofs Rex Gly
inductive SetOf (A:AutoT):List Int→LI→Prop
 | start (s:LI) (h:SetOk s) (h0:∀ q,mem s q=true↔q=0):SetOf A [] s
 | step (w:List Int) (c:Int) (s r:LI) (h:SetOf A w s) (h2:StepS A s c r):SetOf A (w++[c]) r
theorem SetOf.ok {A:AutoT} {w:List Int} {s:LI} (h:SetOf A w s):SetOk s:=by
 cases h with
 | start s h h0=>exact h
 | step w c s r h h2=>exact h2.1
theorem SetOf.nil {A:AutoT} {s:LI} (h:SetOf A [] s):SetOk s∧∀ q,mem s q=true↔q=0:=by
 generalize e:([]:List Int)=w at h
 cases h with
 | start s h h0=>exact ⟨h,h0⟩
 | step w c s r h h2=>simp at e
theorem SetOf.snoc {A:AutoT} {w:List Int} {c:Int} {r:LI} (h:SetOf A (w++[c]) r):∃ s,SetOf A w s∧StepS A s c r:=by
 generalize e:w++[c]=v at h
 cases h with
 | start s h h0=>simp at e
 | step w' c' s r h h2 =>
  obtain ⟨e1,e2⟩:=List.append_inj' e rfl
  subst e1
  injection e2 with e2 _
  subst e2
  exact ⟨s,h,h2⟩
theorem mem_bool {a b:Bool} (h:a=true↔b=true):a=b:=by cases a <;> cases b <;> simp_all
theorem StepS.same {A:AutoT} {s:LI} {c:Int} {r r':LI} (h:StepS A s c r) (h':StepS A s c r'):r=r' :=
 set_ext h.1 h'.1 fun q=>mem_bool ((h.2 q).trans (h'.2 q).symm)
theorem snoc_ind {P:List Int→Prop} (h0:P []) (h1:∀ w c,P w→P (w++[c])):∀ n w,w.length=n→P w
 | 0,w,h=>by rw [List.eq_nil_of_length_eq_zero h];exact h0
 | n+1,w,h=>by
  have hne:w≠[]:=by intro e;subst e;simp at h
  rw [←List.dropLast_concat_getLast hne]
  exact h1 _ _ (snoc_ind h0 h1 n _ (by rw [List.length_dropLast];omega))
theorem SetOf.same {A:AutoT} : ∀ {w:List Int} {s s':LI},SetOf A w s→SetOf A w s'→s=s':=by
 intro w
 refine snoc_ind (P:=fun w=>∀ {s s':LI},SetOf A w s→SetOf A w s'→s=s') ?_ ?_ _ w rfl
 ·intro s s' h h'
  have h:=h.nil
  have h':=h'.nil
  exact set_ext h.1 h'.1 fun q=>mem_bool ((h.2 q).trans (h'.2 q).symm)
 ·intro w c ih s s' h h'
  obtain ⟨t,h1,h2⟩:=h.snoc
  obtain ⟨t',h1',h2'⟩:=h'.snoc
  have:=ih h1 h1'
  subst this
  exact h2.same h2'
theorem setOf_ch {l:List Nd} {k:Int} {A:AutoT} (hA:Aut l k A) {w:List Int} {s:LI} (h:SetOf A w s):(w=[]∧∀ q,mem s q=true↔q=0)∨(w≠[]∧∀ (v:List Int) q,mem s q=true↔(1≤q∧q<A.1.length∧∃ q0,Fol A.2.1 0 q0∧Ch (Fol A.2.1) (fun q=>A.1.getD q 0) (w++v) q0 0 w.length q)):=by
 have hfew:=hA.few
 induction h with
 | start s h h0=>exact .inl ⟨rfl,h0⟩
 | step w c s r h h2 ih =>
  refine .inr ⟨by simp,fun v q=>?_⟩
  rw [h2.2]
  have ew:w++[c]++v=w++(c::v):=by simp
  have el:(w++[c]).length=w.length+1:=by simp
  have eg:(w++(c::v))[w.length]? = some c:=by simp
  rw [ew,el]
  constructor
  ·rintro ⟨k1,k2,p,k3,k4,k5⟩
   have hr:=hA.fol p k3 q k5
   refine ⟨hr.1,k1,?_⟩
   have hone:Ch (Fol A.2.1) (fun q=>A.1.getD q 0) (w++(c::v)) q w.length (w.length+1) q:=.one q w.length (by rw [eg,k2])
   rcases ih with ⟨rfl,ih⟩ | ⟨hw,ih⟩
   ·have:=(ih p).1 k4
    subst this
    exact ⟨q,k5,hone⟩
   ·obtain ⟨_,_,q0,i1,i2⟩:=(ih (c::v) p).1 k4
    exact ⟨q0,i1,i2.join k5 hone⟩
  ·rintro ⟨k1,k2,q0,i1,i2⟩
   obtain ⟨n,e1,e2,e3⟩:=i2.last
   have:n=w.length:=by omega
   subst this
   rw [eg] at e2
   injection e2 with e2
   refine ⟨k2,e2.symm,?_⟩
   rcases e3 with ⟨e4,rfl⟩ | ⟨p,k3,k4⟩
   ·have hw0:w=[]:=List.eq_nil_of_length_eq_zero e4.symm
    rcases ih with ⟨_,ih⟩ | ⟨hw,_⟩
    ·exact ⟨0,by omega,(ih 0).2 rfl,i1⟩
    ·exact absurd hw0 hw
   ·have hlt:=k3.lt
    have hwne:w≠[]:=by intro e;subst e;simp at hlt
    rcases ih with ⟨hw,_⟩ | ⟨_,ih⟩
    ·exact absurd hw hwne
    ·have hp:1≤p∧p<A.1.length:=(k3.mono (F':=Fol A.2.1) (sy':=fun q=>A.1.getD q 0) (P:=fun q=>1≤q∧q<A.1.length) (fun q r hq hf=>⟨hf,hA.fol q hq.2 r hf⟩) (fun _ _=>rfl) (hA.fol 0 (by omega) q0 i1)).2
     exact ⟨p,hp.2,(ih (c::v) p).2 ⟨hp.1,hp.2,q0,i1,k3⟩,k4⟩
theorem setOf_rc {l:List Nd} {k:Int} {A:AutoT} (hA:Aut l k A) {w:List Int} {s:LI} (h:SetOf A w s) (hw:w≠[]) (q:Nat):mem s q=true↔(1≤q∧q<A.1.length∧Rc (rt l) (q-1) w):=by
 rcases setOf_ch hA h with ⟨e,_⟩ | ⟨_,h2⟩
 ·exact absurd e hw
 ·have:=h2 [] q
  rw [List.append_nil] at this
  rw [this]
  constructor
  ·rintro ⟨k1,k2,k3⟩;exact ⟨k1,k2,(hA.rch w q k1 k2).1 k3⟩
  ·rintro ⟨k1,k2,k3⟩;exact ⟨k1,k2,(hA.rch w q k1 k2).2 k3⟩
theorem setOf_fin {l:List Nd} {k:Int} {A:AutoT} (hA:Aut l k A) {w:List Int} {s:LI} (h:SetOf A w s):(∃ q,mem s q=true∧mem A.2.2 q=true)↔Mat l w (l.length-1) 0 w.length:=by
 rw [←hA.acc w]
 rcases setOf_ch hA h with ⟨e,h2⟩ | ⟨e,h2⟩
 ·subst e
  constructor
  ·rintro ⟨q,k1,k2⟩
   have:=(h2 q).1 k1
   subst this
   exact .inl ⟨rfl,k2⟩
  ·rintro (⟨_,k2⟩ | ⟨q,r,_,hc,_⟩)
   ·exact ⟨0,(h2 0).2 rfl,k2⟩
   ·have:=hc.lt;simp at this
 ·constructor
  ·rintro ⟨q,k1,k2⟩
   have:=(h2 [] q).1 k1
   rw [List.append_nil] at this
   obtain ⟨_,_,q0,i1,i2⟩:=this
   exact .inr ⟨q0,q,i1,i2,k2⟩
  ·rintro (⟨e',_⟩ | ⟨q,r,k1,k2,k3⟩)
   ·exact absurd e' e
   ·have hfew:=hA.few
    have hp:1≤r∧r<A.1.length:=(k2.mono (F':=Fol A.2.1) (sy':=fun q=>A.1.getD q 0) (P:=fun q=>1≤q∧q<A.1.length) (fun q r hq hf=>⟨hf,hA.fol q hq.2 r hf⟩) (fun _ _=>rfl) (hA.fol 0 (by omega) q k1)).2
    refine ⟨r,(h2 [] r).2 ⟨hp.1,hp.2,q,k1,?_⟩,k3⟩
    rw [List.append_nil];exact k2
theorem sets_few {l:List Nd} {k:Int} {A:AutoT} (hg:Good k l) (hA:Aut l k A) {sets:LL} (hd:∀ i j,i<j→j<sets.length→sets.getD i D5≠sets.getD j D5)
  (hs:∀ j,j<sets.length→∃ w,SetOf A w (sets.getD j D5)):sets.length≤549755813890:=by
 obtain ⟨code,c1,c2⟩:=few_all hg
 have pick:∀ j,∃ w,j<sets.length→SetOf A w (sets.getD j D5):=fun j=>by
  by_cases hj:j<sets.length
  ·obtain ⟨w,hw⟩:=hs j hj;exact ⟨w,fun _=>hw⟩
  ·exact ⟨[],fun h=>absurd h hj⟩
 obtain ⟨wd,hwd⟩:∃ wd:Nat→List Int,∀ j,j<sets.length→SetOf A (wd j) (sets.getD j D5):=⟨fun j=>(pick j).choose,fun j=>(pick j).choose_spec⟩
 classical
 refine pigeon 549755813890 sets.length (fun j=>if wd j=[] then 0 else if ∃ p,Rc (rt l) p (wd j) then 2+code (wd j) else 1) (fun j hj=>?_) (fun i j hij hj he=>?_)
 ·split
  ·omega
  ·split
   ·rename_i h
    have:=c1 _ h
    rw [show (2:Nat) ^ 39=549755813888 from rfl] at this
    omega
   ·omega
 ·have si:=hwd i (by omega)
  have sj:=hwd j hj
  refine hd i j hij hj ?_
  by_cases hi0:wd i=[]
  ·rw [if_pos hi0] at he
   by_cases hj0:wd j=[]
   ·rw [hi0] at si
    rw [hj0] at sj
    exact si.same sj
   ·rw [if_neg hj0] at he
    split at he <;> omega
  ·rw [if_neg hi0] at he
   by_cases hj0:wd j=[]
   ·rw [if_pos hj0] at he
    split at he <;> omega
   ·rw [if_neg hj0] at he
    refine set_ext si.ok sj.ok fun q=>mem_bool ?_
    rw [setOf_rc hA si hi0,setOf_rc hA sj hj0]
    by_cases hri:∃ p,Rc (rt l) p (wd i)
    ·rw [if_pos hri] at he
     by_cases hrj:∃ p,Rc (rt l) p (wd j)
     ·rw [if_pos hrj] at he
      have:=c2 _ _ hri hrj (by omega) (q-1)
      rw [this]
     ·rw [if_neg hrj] at he;omega
    ·rw [if_neg hri] at he
     by_cases hrj:∃ p,Rc (rt l) p (wd j)
     ·rw [if_pos hrj] at he;omega
     ·constructor
      ·rintro ⟨_,_,h⟩;exact absurd ⟨_,h⟩ hri
      ·rintro ⟨_,_,h⟩;exact absurd ⟨_,h⟩ hrj
structure SubI (k:Int) (A:AutoT) (number:List (LI×Int)) (sets:LL):Prop where
 pos:1≤sets.length
 start:SetOf A [] (sets.getD 0 D5)
 num:∀ j,j<sets.length→mget number (sets.getD j D5)=some (j:Int)
 back:∀ s v,mget number s=some v→∃ j,j<sets.length∧v=(j:Int)∧sets.getD j D5=s
 set:∀ j,j<sets.length→∃ w,(∀ c∈w,0≤c∧c<k)∧SetOf A w (sets.getD j D5)
theorem SubI.dist {k:Int} {A:AutoT} {number:List (LI×Int)} {sets:LL} (h:SubI k A number sets) {i j:Nat} (hij:i<j) (hj:j<sets.length):sets.getD i D5≠sets.getD j D5:=by
 intro e
 have h1:=h.num i (by omega)
 have h2:=h.num j hj
 rw [e,h2] at h1
 injection h1 with h1
 omega
theorem SubI.few {l:List Nd} {k:Int} {A:AutoT} (hg:Good k l) (hA:Aut l k A) {number:List (LI×Int)} {sets:LL} (h:SubI k A number sets):sets.length≤549755813890 :=
 sets_few hg hA (fun i j h1 h2=>h.dist h1 h2) fun j hj=>by obtain ⟨w,_,hw⟩:=h.set j hj;exact ⟨w,hw⟩
theorem SubI.ok {k:Int} {A:AutoT} {number:List (LI×Int)} {sets:LL} (h:SubI k A number sets) {j:Nat} (hj:j<sets.length):SetOk (sets.getD j D5):=by
 obtain ⟨w,_,hw⟩:=h.set j hj;exact hw.ok
def RowS (A:AutoT) (sets:LL) (i:Nat) (n:Nat) (row:LI) (s:Nat):Prop :=
 row.length=n∧∀ c,c<s→∃ j,j<sets.length∧row.getD c 0=(j:Int)∧StepS A (sets.getD i D5) (c:Int) (sets.getD j D5)
theorem RowS.more {A:AutoT} {sets e:LL} {i n:Nat} {row:LI} {s:Nat} (h:RowS A sets i n row s) (hi:i<sets.length):RowS A (sets++e) i n row s:=by
 refine ⟨h.1,fun c hc=>?_⟩
 obtain ⟨j,h1,h2,h3⟩:=h.2 c hc
 refine ⟨j,by rw [List.length_append];omega,h2,?_⟩
 rw [getD_app hi,getD_app h1];exact h3
structure Lrg (k:Int) (A:AutoT) (sets:LL) (M:LL×LI):Prop where
 cnt:M.1.length=sets.length∧M.2.length=sets.length
 few:1≤sets.length∧sets.length≤549755813890
 start:SetOf A [] (sets.getD 0 D5)
 row:∀ i,i<sets.length→RowS A sets i k.toNat (M.1.getD i []) k.toNat
 fin:∀ i,i<sets.length→(M.2.getD i 0=0∨M.2.getD i 0=1)∧(M.2.getD i 0=1↔∃ q,mem (sets.getD i D5) q=true∧mem A.2.2 q=true)
 reach:∀ i,i<sets.length→∃ w,(∀ c∈w,0≤c∧c<k)∧SetOf A w (sets.getD i D5)
 dist:∀ i j,i<j→j<sets.length→sets.getD i D5≠sets.getD j D5
theorem set_snoc {row:LI} {c:Nat} {x:Int} {q:Nat} (hc:c<row.length):(row.set c x).getD q 0=if c=q then x else row.getD q 0:=by
 simp only [List.getD_eq_getElem?_getD,List.getElem?_set]
 by_cases h:c=q
 ·subst h;simp [hc]
 ·simp [h]
theorem VC52_of {k:Int} {l:List Nd} (hg:Good k l) {K:LL×LI→Prop} (h:∀ A sets M,Aut l k A→Lrg k A sets M→K M):VC52 k l K:=by
 have hk:=hg.sym
 have hkn:(k.toNat:Int)=k:=by omega
 unfold VC52
 refine VC60_of hg fun A hA=>VC88_of (p:=0) empty_ok (by omega) fun s0 hs0 hm0=>?_
 have hL:=hA.lok
 have hs0':SetOf A [] s0:=.start s0 hs0 fun q=>by
  rw [hm0,mem_empty,Bool.false_or,decide_eq_true_eq];omega
 have e0:=fiveA hs0.len
 rw [e0]
 refine Loop.by (fun x=>∃ i:Nat,x.1=(i:Int)∧SubI k A x.2.1 x.2.2.1∧i≤x.2.2.1.length∧x.2.2.2.1.length=i∧x.2.2.2.2.length=i∧(∀ j,j<i→RowS A x.2.2.1 j k.toNat (x.2.2.2.1.getD j []) k.toNat)∧∀ j,j<i→(x.2.2.2.2.getD j 0=0∨x.2.2.2.2.getD j 0=1)∧(x.2.2.2.2.getD j 0=1↔∃ q,mem (x.2.2.1.getD j D5) q=true∧mem A.2.2 q=true))
  (fun x=>((549755813890:Int)-x.1).toNat) ⟨0,rfl,⟨by simp,by simpa using hs0',fun j hj=>?_,fun s v hv=>?_,fun j hj=>⟨[],by simp,?_⟩⟩,by omega,rfl,rfl,fun j hj=>by omega,fun j hj=>by omega⟩ ?_
 ·simp only [List.length_singleton] at hj
  have:j=0:=by omega
  subst this
  show mget (mset [] s0 0) s0=_
  rw [mget_mset,if_pos rfl];rfl
 ·rw [mget_mset] at hv
  by_cases e:s=s0
  ·rw [if_pos e] at hv
   injection hv with hv
   exact ⟨0,by simp,hv.symm,e.symm⟩
  ·rw [if_neg e] at hv
   cases hv
 ·simp only [List.length_singleton] at hj
  have:j=0:=by omega
  subst this
  exact hs0'
 rintro ⟨c,number,sets,nx,fi⟩ ⟨i,rfl,hI,hi,hnx,hfi,hrow,hfin⟩ X hX
 simp only at hI hi hnx hfi hrow hfin ⊢
 have hbound:=hI.few hg hA
 unfold VC52_l1
 refine ⟨fun hb=>?_,fun hb=>?_⟩
 ·simp only [decide_eq_true_eq] at hb
  have hil:i<sets.length:=by omega
  refine ⟨⟨by omega,by omega⟩,?_⟩
  refine loopI k.toNat (fun s (x:List (LI×Int)×LL×LI)=>SubI k A x.1 x.2.1∧(∃ e,x.2.1=sets++e)∧RowS A x.2.1 i k.toNat x.2.2 s) ⟨hI,⟨[],by simp⟩,by simp,fun c hc=>by omega⟩ ?_
  rintro s hs ⟨num2,sets2,row⟩ ⟨hI2,⟨e,he⟩,hr⟩ Y hY
  simp only at hI2 he hr ⊢
  have hb2:=hI2.few hg hA
  have hle:sets.length≤sets2.length:=by rw [he,List.length_append];omega
  have hil2:i<sets2.length:=by omega
  have hok:=hI2.ok hil2
  unfold VC52_l2
  simp only [List.length_replicate,Int.toNat_natCast]
  refine ⟨fun hb3=>?_,fun hb3=>?_⟩
  ·simp only [decide_eq_true_eq] at hb3
   have hsk:s<k.toNat:=by omega
   refine ⟨⟨by omega,by omega⟩,?_⟩
   have eA:((A.1,(A.2.1,a5 A.2.2)):AutoT)=A:=by rw [fiveA hL.len]
   rw [eA,fiveA hok.len]
   refine VC89_of hA hok fun r hst=>?_
   rw [fiveA hst.1.len]
   unfold VC52_k4
   rw [fiveA hst.1.len]
   obtain ⟨w,hw1,hw2⟩:=hI2.set i hil2
   have hsw:SetOf A (w++[(s:Int)]) r:=.step w s _ r hw2 hst
   have hrl:=hr.1
   refine ⟨fun hno=>?_,fun hyes=>?_⟩
   ·have hnone:mget num2 r=none:=by
     cases hmg:mget num2 r with
     | none=>rfl
     | some v=>rw [hmg] at hno;simp at hno
    refine ⟨by unfold roomN;simp only [List.length_singleton];omega,?_⟩
    have hnew:∀ j,j<sets2.length→sets2.getD j D5≠r:=fun j hj e=>by
     have:=hI2.num j hj
     rw [e,hnone] at this
     cases this
    unfold VC52_k5
    simp only [Int.toNat_natCast]
    refine ⟨⟨by omega,by omega⟩,⟨by omega,by omega⟩,hY _ hsk ⟨⟨by simp only [List.length_append,List.length_singleton];omega,?_,fun j hj=>?_,fun s' v hv=>?_,fun j hj=>?_⟩,⟨e++[r],by simp only [he,List.append_assoc]⟩,by simp only [List.length_set];exact hrl,fun c hc=>?_⟩⟩
    ·simp only
     rw [getD_app hI2.pos];exact hI2.start
    ·simp only [List.length_append,List.length_singleton] at hj ⊢
     rw [mget_mset]
     by_cases hj2:j<sets2.length
     ·rw [getD_app hj2,if_neg (hnew j hj2)];exact hI2.num j hj2
     ·have:j=sets2.length:=by omega
      subst this
      rw [getD_last,if_pos rfl]
    ·simp only at hv ⊢
     rw [mget_mset] at hv
     by_cases e':s'=r
     ·rw [if_pos e'] at hv
      injection hv with hv
      exact ⟨sets2.length,by simp,hv.symm,by rw [getD_last];exact e'.symm⟩
     ·rw [if_neg e'] at hv
      obtain ⟨j,h1,h2,h3⟩:=hI2.back s' v hv
      exact ⟨j,by simp only [List.length_append];omega,h2,by rw [getD_app h1];exact h3⟩
    ·simp only [List.length_append,List.length_singleton] at hj
     simp only
     by_cases hj2:j<sets2.length
     ·rw [getD_app hj2];exact hI2.set j hj2
     ·have:j=sets2.length:=by omega
      subst this
      rw [getD_last]
      refine ⟨w++[(s:Int)],fun c hc=>?_,hsw⟩
      rcases List.mem_append.1 hc with hc | hc
      ·exact hw1 c hc
      ·rw [List.mem_singleton.1 hc];omega
    ·simp only
     rw [set_snoc (by omega)]
     by_cases hcs:s=c
     ·subst hcs
      rw [if_pos rfl]
      refine ⟨sets2.length,by simp,rfl,?_⟩
      rw [getD_app hil2,getD_last];exact hst
     ·rw [if_neg hcs]
      obtain ⟨j,h1,h2,h3⟩:=hr.2 c (by omega)
      refine ⟨j,by simp only [List.length_append];omega,h2,?_⟩
      rw [getD_app hil2,getD_app h1];exact h3
   ·obtain ⟨v,hv⟩:∃ v,mget num2 r=some v:=by
     cases hmg:mget num2 r with
     | none=>rw [hmg] at hyes;simp at hyes
     | some v=>exact ⟨v,rfl⟩
    obtain ⟨j,h1,h2,h3⟩:=hI2.back r v hv
    rw [hv]
    unfold VC52_k5
    simp only [Int.toNat_natCast,Option.getD_some]
    refine ⟨⟨by omega,by omega⟩,⟨by omega,by omega⟩,hY _ hsk ⟨hI2,⟨e,he⟩,by simp only [List.length_set];exact hrl,fun c hc=>?_⟩⟩
    simp only
    rw [set_snoc (by omega)]
    by_cases hcs:s=c
    ·subst hcs
     rw [if_pos rfl]
     exact ⟨j,h1,h2,by rw [h3];exact hst⟩
    ·rw [if_neg hcs]
     exact hr.2 c (by omega)
  ·simp only [decide_eq_false_iff_not] at hb3
   have hsk:s=k.toNat:=by omega
   subst hsk
   unfold VC52_k2
   refine ⟨by unfold roomN;simp only [List.length_singleton];omega,⟨by omega,by omega⟩,?_⟩
   simp only [Int.toNat_natCast]
   rw [fiveA hok.len,fiveA hL.len]
   have fin:∀ is:Int,(is=0∨is=1)→(is=1↔∃ q,mem (sets2.getD i D5) q=true∧mem A.2.2 q=true)→VC52_k3 (i:Int) nx fi X num2 sets2 row is:=by
    intro is h01 hiff
    unfold VC52_k3
    refine ⟨by unfold roomN;simp only [List.length_singleton];omega,⟨by omega,by omega⟩,hX _ ⟨i+1,by simp,hI2,by simp only;omega,by simp [hnx],by simp [hfi],fun j hj=>?_,fun j hj=>?_⟩ (by simp only;omega)⟩
    ·simp only
     by_cases hji:j<i
     ·rw [getD_app (by omega),he]
      exact (hrow j hji).more (by omega)
     ·have:j=nx.length:=by omega
      subst this
      rw [getD_last,hnx]
      exact hr
    ·simp only
     by_cases hji:j<i
     ·rw [getD_app (by omega),he,getD_app (by omega)]
      exact hfin j hji
     ·have:j=fi.length:=by omega
      subst this
      rw [getD_last,hfi]
      exact ⟨h01,hiff⟩
   refine VC90_of hok hL fun b hb4=>⟨fun ht=>fin 1 (.inr rfl) ⟨fun _=>hb4.1 ht,fun _=>rfl⟩,fun hf=>fin 0 (.inl rfl) ⟨fun h=>by omega,fun h=>?_⟩⟩
   rw [hb4.2 h] at hf
   cases hf
 ·simp only [decide_eq_false_iff_not] at hb
  have hin:i=sets.length:=by omega
  subst hin
  unfold VC52_k1
  exact h A sets (nx,fi) hA ⟨⟨hnx,hfi⟩,⟨hI.pos,hbound⟩,hI.start,hrow,hfin,hI.set,fun i j h1 h2=>hI.dist h1 h2⟩
end Dec
namespace Dec
open Go Go.Proofs Rex Gly
abbrev LM:=LL×LI
def SyW (k:Int) (w:List Int):Prop:=∀ c∈w,0≤c∧c<k
def nxL (M:LM) (i:Nat) (c:Int):Nat:=((M.1.getD i []).getD c.toNat 0).toNat
def runL (M:LM) (i:Nat) (w:List Int):Nat:=w.foldl (nxL M) i
def fnL (M:LM) (i:Nat):Int:=M.2.getD i 0
def EqL (k:Int) (M:LM) (i j:Nat):Prop:=∀ w,SyW k w→fnL M (runL M i w)=fnL M (runL M j w)
theorem runL_app (M:LM) (i:Nat) (u v:List Int):runL M i (u++v)=runL M (runL M i u) v:=by simp [runL]
theorem runL_cons (M:LM) (i:Nat) (c:Int) (v:List Int):runL M i (c::v)=runL M (nxL M i c) v:=rfl
theorem EqL.rfl' (k:Int) (M:LM) (i:Nat):EqL k M i i:=fun _ _=>rfl
theorem EqL.symm {k:Int} {M:LM} {i j:Nat} (h:EqL k M i j):EqL k M j i:=fun w hw=>(h w hw).symm
theorem EqL.trans {k:Int} {M:LM} {i j q:Nat} (h:EqL k M i j) (h2:EqL k M j q):EqL k M i q:=fun w hw=>(h w hw).trans (h2 w hw)
theorem EqL.next {k:Int} {M:LM} {i j:Nat} (h:EqL k M i j) {c:Int} (hc:0≤c∧c<k):EqL k M (nxL M i c) (nxL M j c):=fun w hw=>by
 have:=h (c::w) (fun x hx=>by
  rcases List.mem_cons.1 hx with rfl | hx
  ·exact hc
  ·exact hw x hx)
 exact this
structure Dfa (k:Int) (M:LM):Prop where
 len:M.1.length=M.2.length
 few:1≤M.2.length∧M.2.length≤549755813890
 row:∀ i,i<M.2.length→(M.1.getD i []).length=k.toNat∧∀ c,c<k.toNat→∃ j,j<M.2.length∧(M.1.getD i []).getD c 0=(j:Int)
 fin:∀ i,i<M.2.length→M.2.getD i 0=0∨M.2.getD i 0=1
 reach:∀ i,i<M.2.length→∃ w,SyW k w∧runL M 0 w=i
theorem Dfa.nx {k:Int} {M:LM} (h:Dfa k M) {i:Nat} (hi:i<M.2.length) {c:Int} (hc:0≤c∧c<k):nxL M i c<M.2.length∧(M.1.getD i []).getD c.toNat 0=(nxL M i c:Int):=by
 obtain ⟨j,h1,h2⟩:=(h.row i hi).2 c.toNat (by omega)
 unfold nxL
 rw [h2]
 exact ⟨by simpa using h1,by simp⟩
theorem Dfa.run {k:Int} {M:LM} (h:Dfa k M):∀ {w:List Int} {i:Nat},i<M.2.length→SyW k w→runL M i w<M.2.length
 | [],i,hi,_=>hi
 | c::w,i,hi,hw=>by
  rw [runL_cons]
  exact Dfa.run h (h.nx hi (hw c List.mem_cons_self)).1 fun x hx=>hw x (List.mem_cons_of_mem _ hx)
theorem lrg_dfa {k:Int} {l:List Nd} {A:AutoT} {sets:LL} {M:LM} (hk:1≤k) (hA:Aut l k A) (h:Lrg k A sets M):Dfa k M∧∀ w,SyW k w→(fnL M (runL M 0 w)=1↔Mat l w (l.length-1) 0 w.length):=by
 obtain ⟨c1,c2⟩:=h.cnt
 have go:∀ w,SyW k w→∃ j,j<sets.length∧runL M 0 w=j∧SetOf A w (sets.getD j D5):=by
  intro w
  refine snoc_ind (P:=fun w=>SyW k w→∃ j,j<sets.length∧runL M 0 w=j∧SetOf A w (sets.getD j D5)) ?_ ?_ _ w rfl
  ·exact fun _=>⟨0,h.few.1,rfl,h.start⟩
  ·intro w c ih hw
   obtain ⟨j,j1,j2,j3⟩:=ih fun x hx=>hw x (List.mem_append_left _ hx)
   have hc:=hw c (by simp)
   obtain ⟨q,q1,q2,q3⟩:=(h.row j j1).2 c.toNat (by omega)
   refine ⟨q,q1,?_,.step w c _ _ j3 (by rw [show ((c.toNat:Nat):Int)=c by omega] at q3;exact q3)⟩
   rw [runL_app,j2]
   show nxL M j c=q
   unfold nxL
   rw [q2];simp
 refine ⟨⟨by omega,by rw [c2];exact h.few,fun i hi=>?_,fun i hi=>(h.fin i (by omega)).1,fun i hi=>?_⟩,fun w hw=>?_⟩
 ·have hr:=h.row i (by omega)
  refine ⟨hr.1,fun c hc=>?_⟩
  obtain ⟨q,q1,q2,_⟩:=hr.2 c hc
  exact ⟨q,by omega,q2⟩
 ·obtain ⟨w,w1,w2⟩:=h.reach i (by omega)
  obtain ⟨j,j1,j2,j3⟩:=go w w1
  refine ⟨w,w1,?_⟩
  have e:=w2.same j3
  rcases Nat.lt_trichotomy i j with hij | hij | hij
  ·exact absurd e (h.dist i j hij j1)
  ·omega
  ·exact absurd e.symm (h.dist j i hij (by omega))
 ·obtain ⟨j,j1,j2,j3⟩:=go w hw
  rw [j2]
  unfold fnL
  rw [(h.fin j j1).2]
  exact setOf_fin hA j3
def keyF (k:Int) (M:LM) (cl:LI) (i:Nat):LI:=cl.getD i 0::(List.range 3).map fun (c:Nat)=>if (c:Int)<k then cl.getD (nxL M i (c:Int)) 0 else 0
theorem keyF_eq {k:Int} {M:LM} {cl:LI} {i j:Nat} (hk:k≤3):keyF k M cl i=keyF k M cl j↔cl.getD i 0=cl.getD j 0∧∀ c,0≤c∧c<k→cl.getD (nxL M i c) 0=cl.getD (nxL M j c) 0:=by
 unfold keyF
 constructor
 ·intro h
  injection h with h1 h2
  refine ⟨h1,fun c hc=>?_⟩
  have h3:=congrArg (fun l=>l.getD c.toNat 0) h2
  have hc3:c.toNat<3:=by omega
  simp only [List.getD_eq_getElem?_getD,List.getElem?_map,List.getElem?_range hc3,Option.map_some,Option.getD_some] at h3
  rw [if_pos (by omega),if_pos (by omega),show ((c.toNat:Nat):Int)=c by omega] at h3
  simpa [List.getD_eq_getElem?_getD] using h3
 ·rintro ⟨h1,h2⟩
  rw [h1]
  congr 1
  refine List.map_congr_left fun c hc=>?_
  split
  ·exact h2 c (by omega)
  ·rfl
theorem mset_len {α β:Type} [DecidableEq α] (m:List (α×β)) (x:α) (v:β) (h:mget m x=none):(mset m x v).length=m.length+1:=by
 induction m with
 | nil=>rfl
 | cons p r ih =>
  obtain ⟨y,u⟩:=p
  unfold mget at h
  unfold mset
  by_cases e:x=y
  ·rw [if_pos e] at h;cases h
  ·rw [if_neg e] at h
   rw [if_neg e]
   simp only [List.length_cons]
   rw [ih h]
structure Cls (n:Nat) (cl:LI) (m:Nat):Prop where
 len:cl.length=n
 val:∀ i,i<n→∃ v,v<m∧cl.getD i 0=(v:Int)
 all:∀ v,v<m→∃ i,i<n∧cl.getD i 0=(v:Int)
theorem Cls.le {n m:Nat} {cl:LI} (h:Cls n cl m):m≤n:=by
 have pick:∀ v,∃ i,v<m→(i<n∧cl.getD i 0=(v:Int)):=fun v=>by
  by_cases hv:v<m
  ·obtain ⟨i,hi⟩:=h.all v hv;exact ⟨i,fun _=>hi⟩
  ·exact ⟨0,fun h=>absurd h hv⟩
 refine pigeon n m (fun v=>(pick v).choose) (fun v hv=>((pick v).choose_spec hv).1) (fun u v huv hv e=>?_)
 have h1:=((pick u).choose_spec (by omega)).2
 have h2:=((pick v).choose_spec hv).2
 rw [e,h2] at h1
 omega
theorem finer {n m m':Nat} {cl cl':LI} (h:Cls n cl m) (h':Cls n cl' m') (hf:∀ i j,i<n→j<n→cl'.getD i 0=cl'.getD j 0→cl.getD i 0=cl.getD j 0):m≤m'∧(m'=m→∀ i j,i<n→j<n→cl.getD i 0=cl.getD j 0→cl'.getD i 0=cl'.getD j 0):=by
 have pick:∀ v,∃ i,v<m→(i<n∧cl.getD i 0=(v:Int)):=fun v=>by
  by_cases hv:v<m
  ·obtain ⟨i,hi⟩:=h.all v hv;exact ⟨i,fun _=>hi⟩
  ·exact ⟨0,fun h=>absurd h hv⟩
 obtain ⟨rep,hrep⟩:∃ rep:Nat→Nat,∀ v,v<m→(rep v<n∧cl.getD (rep v) 0=(v:Int)):=⟨fun v=>(pick v).choose,fun v=>(pick v).choose_spec⟩
 have val:∀ i,i<n→(cl'.getD i 0).toNat<m'∧0≤cl'.getD i 0:=fun i hi=>by
  obtain ⟨v,h1,h2⟩:=h'.val i hi
  omega
 have dis:∀ u v,u<m→v<m→(cl'.getD (rep u) 0).toNat=(cl'.getD (rep v) 0).toNat→u=v:=by
  intro u v hu hv e
  have a:=hrep u hu
  have b:=hrep v hv
  have va:=val _ a.1
  have vb:=val _ b.1
  have:=hf _ _ a.1 b.1 (by omega)
  omega
 refine ⟨pigeon m' m (fun v=>(cl'.getD (rep v) 0).toNat) (fun v hv=>(val _ (hrep v hv).1).1) (fun u v huv hv e=>by have:=dis u v (by omega) hv e;omega),fun hm i j hi hj e=>?_⟩
 subst hm
 refine Classical.byContradiction fun hne=>?_
 obtain ⟨c,hc1,hc2⟩:=h.val i hi
 have two:∃ x,x<n∧cl.getD x 0=(c:Int)∧cl'.getD x 0≠cl'.getD (rep c) 0:=by
  by_cases h1:cl'.getD i 0=cl'.getD (rep c) 0
  ·exact ⟨j,hj,by omega,fun h2=>hne (by omega)⟩
  ·exact ⟨i,hi,hc2,h1⟩
 obtain ⟨x,x1,x2,x3⟩:=two
 have:=pigeon m' (m'+1) (fun v=>if v<m' then (cl'.getD (rep v) 0).toNat else (cl'.getD x 0).toNat) (fun v hv=>by
  show (if v<m' then _ else _)<m'
  split
  ·rename_i h;exact (val _ (hrep v h).1).1
  ·exact (val _ x1).1) (fun u v huv hv e=>by
  try simp only at e
  rw [if_pos (by omega)] at e
  split at e
  ·rename_i h2
   have:=dis u v (by omega) h2 e
   omega
  ·have a:=hrep u (by omega)
   have va:=val _ a.1
   have vx:=val _ x1
   have e2:cl'.getD (rep u) 0=cl'.getD x 0:=by omega
   have e3:=hf _ _ a.1 x1 e2
   have:u=c:=by omega
   subst this
   exact x3 e2.symm)
 omega
structure ClsOk (k:Int) (M:LM) (cl:LI):Prop where
 fin:∀ i j,i<M.2.length→j<M.2.length→cl.getD i 0=cl.getD j 0→fnL M i=fnL M j
 eq:∀ i j,i<M.2.length→j<M.2.length→EqL k M i j→cl.getD i 0=cl.getD j 0
structure NxI (k:Int) (M:LM) (cl:LI) (i:Nat) (number:List (LI×Int)) (next:LI):Prop where
 len:next.length=M.2.length
 num:∀ j,j<i→mget number (keyF k M cl j)=some (next.getD j 0)
 back:∀ s v,mget number s=some v→∃ j,j<i∧keyF k M cl j=s∧next.getD j 0=v
 val:∀ j,j<i→∃ v,v<number.length∧next.getD j 0=(v:Int)
 all:∀ v,v<number.length→∃ j,j<i∧next.getD j 0=(v:Int)
 inj:∀ j q,j<i→q<i→next.getD j 0=next.getD q 0→keyF k M cl j=keyF k M cl q
theorem NxI.few {k:Int} {M:LM} {cl:LI} {i:Nat} {number:List (LI×Int)} {next:LI} (h:NxI k M cl i number next):number.length≤i:=by
 have pick:∀ v,∃ j,v<number.length→(j<i∧next.getD j 0=(v:Int)):=fun v=>by
  by_cases hv:v<number.length
  ·obtain ⟨i,hi⟩:=h.all v hv;exact ⟨i,fun _=>hi⟩
  ·exact ⟨0,fun h=>absurd h hv⟩
 refine pigeon i number.length (fun v=>(pick v).choose) (fun v hv=>((pick v).choose_spec hv).1) (fun u v huv hv e=>?_)
 have h1:=((pick u).choose_spec (by omega)).2
 have h2:=((pick v).choose_spec hv).2
 rw [e,h2] at h1
 omega
theorem VC53_of {k:Int} {M:LM} (hk:1≤k∧k≤3) (hM:Dfa k M) {K:LI×Int→Prop}
  (h:∀ (cl:LI) (m:Nat),Cls M.2.length cl m→(∀ i j,i<M.2.length→j<M.2.length→(cl.getD i 0=cl.getD j 0↔EqL k M i j))→K (cl,(m:Int))):VC53 M k K:=by
 have hfew:=hM.few
 have hlen:=hM.len
 have hkn:(k.toNat:Int)=k:=by omega
 unfold VC53 VC91
 have main:Loop (σ:=Int×LI) (fun s X=>VC53_l1 M k K s.1 s.2 X) ((0:Int),M.2):=by
  refine Loop.by (fun x=>∃ m:Nat,x.1=(m:Int)∧m≤M.2.length∧x.2.length=M.2.length∧ClsOk k M x.2∧(m≠0→Cls M.2.length x.2 m)) (fun x=>((M.2.length:Int)-x.1).toNat) ⟨0,rfl,by omega,rfl,⟨fun i j _ _ e=>(show M.2.getD i 0=M.2.getD j 0 from e),fun i j _ _ e=>(show M.2.getD i 0=M.2.getD j 0 from e [] (fun c hc=>(by cases hc)))⟩,fun h=>absurd rfl h⟩ ?_
  rintro ⟨c,cl⟩ ⟨m,rfl,hm,hcl,hok,hcs⟩ X hX
  try simp only at hcl hok hcs ⊢
  unfold VC53_l1
  refine ⟨⟨by omega,by omega⟩,?_⟩
  refine loopI M.2.length (fun i (x:List (LI×Int)×LI)=>NxI k M cl i x.1 x.2) ⟨by simp only [List.length_replicate];omega,fun j hj=>by omega,fun s v hv=>(by cases hv),fun j hj=>by omega,fun v hv=>absurd hv (Nat.not_lt_zero _),fun j q hj=>by omega⟩ ?_
  rintro i hi ⟨number,next⟩ hI Y hY
  simp only at hI ⊢
  have hnf:=hI.few
  have hnl:=hI.len
  unfold VC53_l2
  simp only [Int.toNat_natCast]
  refine ⟨fun hb=>?_,fun hb=>?_⟩
  ·simp only [decide_eq_true_eq] at hb
   have hil:i<M.2.length:=by omega
   refine ⟨⟨by omega,by omega⟩,?_⟩
   refine loopI k.toNat (fun s (key:LI)=>key.length=4∧key.getD 0 0=cl.getD i 0∧∀ c,c<3→key.getD (c+1) 0=if c<s then cl.getD (nxL M i (c:Int)) 0 else 0) ⟨rfl,rfl,fun c hc=>by
    rw [if_neg (by omega)]
    match c,hc with
    | 0,_ | 1,_ | 2,_=>rfl⟩ ?_
   rintro s hs key ⟨k1,k2,k3⟩ Z hZ
   unfold VC53_l3
   simp only [Int.toNat_natCast]
   refine ⟨fun hb2=>?_,fun hb2=>?_⟩
   ·simp only [decide_eq_true_eq] at hb2
    have hn:=hM.nx hil (c:=(s:Int)) (by omega)
    have hr:=hM.row i hil
    simp only [Int.toNat_natCast] at hn
    rw [hn.2]
    refine ⟨⟨by omega,by omega⟩,⟨by omega,by omega⟩,⟨by omega,by omega⟩,⟨by omega,by omega⟩,⟨by omega,by omega⟩,⟨by omega,by omega⟩,hZ _ (by omega) ⟨by rw [List.length_set];exact k1,?_,fun c hc=>?_⟩⟩
    ·rw [set_snoc (by omega),if_neg (by omega)];exact k2
    ·rw [set_snoc (by omega),show (((s:Int)+1)).toNat=s+1 by omega]
     simp only [Int.toNat_natCast]
     by_cases hcs2:s+1=c+1
     ·rw [if_pos hcs2,if_pos (by omega),show c=s by omega]
     ·rw [if_neg hcs2,k3 c hc]
      by_cases hlt:c<s
      ·rw [if_pos hlt,if_pos (by omega)]
      ·rw [if_neg hlt,if_neg (by omega)]
   ·simp only [decide_eq_false_iff_not] at hb2
    have hsk:s=k.toNat:=by omega
    subst hsk
    have hkey:key=keyF k M cl i:=by
     refine ext_getD (0:Int) (by rw [k1];rfl) fun q hq=>?_
     rw [k1] at hq
     cases q with
     | zero=>rw [k2];rfl
     | succ q =>
      rw [k3 q (by omega)]
      unfold keyF
      rw [List.getD_cons_succ]
      simp only [List.getD_eq_getElem?_getD,List.getElem?_map,List.getElem?_range (show q<3 by omega),Option.map_some,Option.getD_some]
      by_cases hqk:q<k.toNat
      ·rw [if_pos hqk,if_pos (by omega)]
      ·rw [if_neg hqk,if_neg (by omega)]
    have ha4:a4 key=key:=by
     match key,k1 with
     | [_,_,_,_],_=>rfl
    unfold VC53_k2
    rw [ha4]
    refine ⟨fun hno=>?_,fun hyes=>?_⟩
    ·have hnone:mget number key=none:=by
      cases hmg:mget number key with
      | none=>rfl
      | some v=>rw [hmg] at hno;simp at hno
     refine ⟨⟨by omega,by omega⟩,?_⟩
     unfold VC53_k3
     refine ⟨⟨by omega,by omega⟩,⟨by omega,by omega⟩,hY _ hil ?_⟩
     have hml:=mset_len number key (number.length:Int) hnone
     have hnew:∀ j,j<i→keyF k M cl j≠key:=fun j hj e=>by
      have:=hI.num j hj
      rw [e,hnone] at this
      cases this
     simp only [Int.toNat_natCast]
     refine ⟨by simp only [List.length_set];exact hnl,fun j hj=>?_,fun s' v hv=>?_,fun j hj=>?_,fun v hv=>?_,fun j q hj hq e=>?_⟩
     ·try simp only at hj ⊢
      rw [mget_mset,set_snoc (by omega)]
      by_cases hji:j<i
      ·rw [if_neg (hnew j hji),if_neg (by omega)];exact hI.num j hji
      ·have:j=i:=by omega
       subst this
       rw [if_pos hkey.symm,if_pos rfl]
     ·try simp only at hv
      rw [mget_mset] at hv
      by_cases e:s'=key
      ·rw [if_pos e] at hv
       injection hv with hv
       exact ⟨i,by omega,by rw [e,hkey],by (try simp only);rw [set_snoc (by omega),if_pos rfl];exact hv⟩
      ·rw [if_neg e] at hv
       obtain ⟨j,h1,h2,h3⟩:=hI.back s' v hv
       exact ⟨j,by omega,h2,by (try simp only);rw [set_snoc (by omega),if_neg (by omega)];exact h3⟩
     ·try simp only
      rw [hml,set_snoc (by omega)]
      by_cases hji:j<i
      ·rw [if_neg (by omega)]
       obtain ⟨v,h1,h2⟩:=hI.val j hji
       exact ⟨v,by omega,h2⟩
      ·rw [if_pos (by omega)]
       exact ⟨number.length,by omega,rfl⟩
     ·try simp only at hv
      rw [hml] at hv
      by_cases hvn:v<number.length
      ·obtain ⟨j,h1,h2⟩:=hI.all v hvn
       exact ⟨j,by omega,by (try simp only);rw [set_snoc (by omega),if_neg (by omega)];exact h2⟩
      ·refine ⟨i,by omega,?_⟩
       try simp only
       rw [set_snoc (by omega),if_pos rfl]
       omega
     ·try simp only at e
      rw [set_snoc (by omega),set_snoc (by omega)] at e
      by_cases hji:i=j
      ·by_cases hqi:i=q
       ·rw [←hji,←hqi]
       ·rw [if_pos hji,if_neg hqi] at e
        obtain ⟨v,h1,h2⟩:=hI.val q (by omega)
        omega
      ·by_cases hqi:i=q
       ·rw [if_neg hji,if_pos hqi] at e
        obtain ⟨v,h1,h2⟩:=hI.val j (by omega)
        omega
       ·rw [if_neg hji,if_neg hqi] at e
        exact hI.inj j q (by omega) (by omega) e
    ·obtain ⟨v,hv⟩:∃ v,mget number key=some v:=by
      cases hmg:mget number key with
      | none=>rw [hmg] at hyes;simp at hyes
      | some v=>exact ⟨v,rfl⟩
     obtain ⟨j0,h1,h2,h3⟩:=hI.back key v hv
     rw [hv]
     unfold VC53_k3
     simp only [Option.getD_some,Int.toNat_natCast]
     refine ⟨⟨by omega,by omega⟩,⟨by omega,by omega⟩,hY _ hil ⟨by simp only [List.length_set];exact hnl,fun j hj=>?_,fun s' u hu=>?_,fun j hj=>?_,fun u hu=>?_,fun j q hj hq e=>?_⟩⟩
     ·try simp only
      rw [set_snoc (by omega)]
      by_cases hji:j<i
      ·rw [if_neg (by omega)];exact hI.num j hji
      ·have:j=i:=by omega
       subst this
       rw [if_pos rfl,←hkey];exact hv
     ·obtain ⟨j,g1,g2,g3⟩:=hI.back s' u hu
      exact ⟨j,by omega,g2,by (try simp only);rw [set_snoc (by omega),if_neg (by omega)];exact g3⟩
     ·try simp only
      rw [set_snoc (by omega)]
      by_cases hji:j<i
      ·rw [if_neg (by omega)];exact hI.val j hji
      ·rw [if_pos (by omega),←h3]
       exact hI.val j0 h1
     ·obtain ⟨j,g1,g2⟩:=hI.all u hu
      exact ⟨j,by omega,by (try simp only);rw [set_snoc (by omega),if_neg (by omega)];exact g2⟩
     ·try simp only at e
      rw [set_snoc (by omega),set_snoc (by omega)] at e
      by_cases hji:i=j
      ·by_cases hqi:i=q
       ·rw [←hji,←hqi]
       ·rw [if_pos hji,if_neg hqi] at e
        rw [←hji,←hkey,←h2]
        exact hI.inj j0 q h1 (by omega) (by omega)
      ·by_cases hqi:i=q
       ·rw [if_neg hji,if_pos hqi] at e
        rw [←hqi,←hkey,←h2]
        exact hI.inj j j0 (by omega) h1 (by omega)
       ·rw [if_neg hji,if_neg hqi] at e
        exact hI.inj j q (by omega) (by omega) e
  ·simp only [decide_eq_false_iff_not] at hb
   have hin:i=M.2.length:=by omega
   subst hin
   unfold VC53_k1
   have hnew:Cls M.2.length next number.length:=⟨hnl,hI.val,hI.all⟩
   have hiff:∀ i j,i<M.2.length→j<M.2.length→(next.getD i 0=next.getD j 0↔cl.getD i 0=cl.getD j 0∧∀ c,0≤c∧c<k→cl.getD (nxL M i c) 0=cl.getD (nxL M j c) 0):=by
    intro i j hi hj
    rw [←keyF_eq hk.2]
    refine ⟨hI.inj i j hi hj,fun e=>?_⟩
    have h1:=hI.num i hi
    have h2:=hI.num j hj
    rw [e,h2] at h1
    injection h1 with h1
    exact h1.symm
   have hpos:1≤number.length:=by
    obtain ⟨v,h1,_⟩:=hI.val 0 (by omega)
    omega
   refine ⟨⟨by omega,by omega⟩,fun he=>?_,fun hne=>?_⟩
   ·simp only [decide_eq_true_eq] at he
    have hmn:number.length=m:=by omega
    have hc:=hcs (by omega)
    have fin:=(finer hc hnew fun i j hi hj e=>((hiff i j hi hj).1 e).1).2 hmn
    have stable:∀ w,SyW k w→∀ i j,i<M.2.length→j<M.2.length→cl.getD i 0=cl.getD j 0→fnL M (runL M i w)=fnL M (runL M j w):=by
     intro w
     induction w with
     | nil=>exact fun _ i j hi hj e=>hok.fin i j hi hj e
     | cons c w ih =>
      intro hw i j hi hj e
      have hc:=hw c List.mem_cons_self
      rw [runL_cons,runL_cons]
      exact ih (fun x hx=>hw x (List.mem_cons_of_mem _ hx)) _ _ (hM.nx hi hc).1 (hM.nx hj hc).1 (((hiff i j hi hj).1 (fin i j hi hj e)).2 c hc)
    refine h next m (by rw [←hmn];exact hnew) fun i j hi hj=>⟨fun e w hw=>stable w hw i j hi hj ((hiff i j hi hj).1 e).1,fun e=>fin i j hi hj (hok.eq i j hi hj e)⟩
   ·simp only [decide_eq_false_iff_not] at hne
    have hle:m≤number.length:=by
     by_cases hm0:m=0
     ·omega
     ·exact (finer (hcs hm0) hnew fun i j hi hj e=>((hiff i j hi hj).1 e).1).1
    refine ⟨⟨by omega,by omega⟩,hX _ ⟨number.length,rfl,hnf,hnl,⟨fun i j hi hj e=>hok.fin i j hi hj ((hiff i j hi hj).1 e).1,fun i j hi hj e=>?_⟩,fun _=>hnew⟩ (by simp only;omega)⟩
    refine (hiff i j hi hj).2 ⟨hok.eq i j hi hj e,fun c hc=>hok.eq _ _ (hM.nx hi hc).1 (hM.nx hj hc).1 (e.next hc)⟩
 intro b hb
 refine ⟨fun ht=>?_,fun hf=>⟨by unfold roomN;simp only [List.length_nil];omega,main⟩⟩
 have:=hb ht
 rw [this] at hfew
 simp at hfew
end Dec
