/-
Sets of positions: fiveA words of 64 bits. The plain contract of sentence.Hollow. The positions of an expression: the plain contract of glyph's builder (Glushkov). A pool of nodes of regular expressions, each different one once: the plain contracts of its methods. The plain contract of slices.Repeat, of a row of one number. The position automaton of an expression (Glushkov), and which words lead to which positions.
-/
import Derived.Test.YtckghdhnmpnljaaGenSc
import Derived.Test.YtckghdhnmpnljaaGlyA
import Derived.Test.YtckghdhnmpnljaaGlyR
import Derived.Test.YtckghdhnmpnljaaGenSd
set_option linter.unusedSimpArgs false
set_option linter.unusedVariables false
namespace Dec
open Go Go.Proofs
def U64 (s:Int):Prop:=0≤s∧s<18446744073709551616
theorem u64_nat {s:Int} (h:U64 s):∃ n:Nat,n<18446744073709551616∧s=(n:Int):=⟨s.toNat,by have:=h.1;have:=h.2;omega,by have:=h.1;omega⟩
theorem ofInt_nat64 {n:Nat} (h:n<18446744073709551616):(BitVec.ofInt 64 (n:Int)).toNat=n:=by
 simp [BitVec.toNat_ofInt];omega
theorem wrap_nat64 {n:Nat} (h:n<18446744073709551616):IntKind.wrap .u64 (n:Int)=(n:Int):=wrapU64 ⟨by omega,by omega⟩
theorem bAnd_nat64 {m n:Nat} (hm:m<18446744073709551616) (hn:n<18446744073709551616):bAnd .u64 (m:Int) (n:Int)=((m &&& n:Nat):Int):=by
 unfold bAnd
 have:(BitVec.ofInt 64 (m:Int) &&& BitVec.ofInt 64 (n:Int)).toNat=m &&& n:=by rw [BitVec.toNat_and,ofInt_nat64 hm,ofInt_nat64 hn]
 show IntKind.wrap .u64 ((BitVec.ofInt 64 (m:Int) &&& BitVec.ofInt 64 (n:Int)).toNat:Int)=_
 rw [this,wrap_nat64 (by have:=Nat.and_le_left (n:=m) (m:=n);omega)]
theorem bOr_nat64 {m n:Nat} (hm:m<18446744073709551616) (hn:n<18446744073709551616):bOr .u64 (m:Int) (n:Int)=((m ||| n:Nat):Int)∧(m ||| n)<18446744073709551616:=by
 have hlt:(m ||| n)<18446744073709551616:=Nat.or_lt_two_pow (n:=64) hm hn
 refine ⟨?_,hlt⟩
 unfold bOr
 have:(BitVec.ofInt 64 (m:Int) ||| BitVec.ofInt 64 (n:Int)).toNat=m ||| n:=by rw [BitVec.toNat_or,ofInt_nat64 hm,ofInt_nat64 hn]
 show IntKind.wrap .u64 ((BitVec.ofInt 64 (m:Int) ||| BitVec.ofInt 64 (n:Int)).toNat:Int)=_
 rw [this,wrap_nat64 hlt]
theorem bt_or64 {s t:Int} (hs:U64 s) (ht:U64 t) (i:Nat):bt (bOr .u64 s t) i=(bt s i||bt t i):=by
 obtain ⟨m,hm,rfl⟩:=u64_nat hs
 obtain ⟨n,hn,rfl⟩:=u64_nat ht
 rw [(bOr_nat64 hm hn).1]
 simp [bt,Nat.testBit_or]
theorem u64_or {s t:Int} (hs:U64 s) (ht:U64 t):U64 (bOr .u64 s t):=by
 obtain ⟨m,hm,rfl⟩:=u64_nat hs
 obtain ⟨n,hn,rfl⟩:=u64_nat ht
 rw [(bOr_nat64 hm hn).1]
 have:=(bOr_nat64 hm hn).2
 exact ⟨by omega,by omega⟩
theorem shl164 {n:Nat} (h:n<64):bShl .u64 1 (n:Int)=((2 ^ n:Nat):Int):=by
 unfold bShl
 have hp:(2:Nat) ^ n<18446744073709551616:=by
  have:(2:Nat) ^ n<2 ^ 64:=Nat.pow_lt_pow_right (by decide) h
  simpa using this
 have hm:min (n:Int).toNat IntKind.u64.bits=n:=by simp [IntKind.bits];omega
 rw [hm,Int.one_mul]
 have:(2:Int) ^ n=((2 ^ n:Nat):Int):=by simp
 rw [this,wrap_nat64 hp]
theorem u64_shl1 (n:Int):U64 (bShl .u64 1 n):=by
 unfold bShl U64
 have:=@IntKind.wrap .u64 (1*2 ^ min n.toNat IntKind.u64.bits)
 simp only [IntKind.wrap,IntKind.signed,IntKind.bits]
 simp
 omega
theorem bt_shl164 {n:Nat} (h:n<64) (i:Nat):bt (bShl .u64 1 (n:Int)) i=decide (n=i):=by
 rw [shl164 h]
 simp only [bt,Int.toNat_natCast]
 rw [Nat.testBit_two_pow]
theorem shr_nat64 {m:Nat} (n:Nat) (hm:m<18446744073709551616):bShr .u64 (m:Int) (n:Int)=((m / 2 ^ n:Nat):Int):=by
 unfold bShr
 simp only [IntKind.bits,Int.toNat_natCast]
 have e:(2:Int) ^ (min n 64)=((2 ^ (min n 64):Nat):Int):=by simp
 rw [e,Int.fdiv_eq_ediv_of_nonneg _ (Int.natCast_nonneg _),←Int.natCast_ediv]
 congr 1
 by_cases h:n≤64
 ·rw [Nat.min_eq_left h]
 ·rw [Nat.min_eq_right (by omega)]
  rw [Nat.div_eq_of_lt (by simpa using hm),Nat.div_eq_of_lt]
  exact Nat.lt_of_lt_of_le hm (Nat.pow_le_pow_right (n:=2) (by decide) (show 64≤n by omega))
theorem has_bt64 {s n:Int} (hs:U64 s) (hn:0≤n):(decide ((bAnd .u64 (bShr .u64 s n) (1:Int))=(1:Int)))=bt s n.toNat:=by
 obtain ⟨m,hm,rfl⟩:=u64_nat hs
 obtain ⟨k,rfl⟩:∃ k:Nat,n=(k:Int):=⟨n.toNat,by omega⟩
 rw [shr_nat64 k hm]
 have h1:=bAnd_nat64 (m:=m / 2 ^ k) (n:=1) (Nat.lt_of_le_of_lt (Nat.div_le_self _ _) hm) (by decide)
 rw [show ((1:Nat):Int)=1 from rfl] at h1
 rw [h1]
 simp only [bt,Int.toNat_natCast,Nat.testBit_eq_decide_div_mod_eq,Nat.and_one_is_mod]
 congr 1
 rw [eq_iff_iff]
 omega
theorem u64_zero:U64 0:=⟨by omega,by omega⟩
structure SetOk (s:List Int):Prop where
 len:s.length=5
 word:∀ i,U64 (s.getD i 0)
def mem (s:List Int) (p:Nat):Bool:=bt (s.getD (p / 64) 0) (p % 64)
theorem fiveA {s:List Int} (h:s.length=5):(a5 s)=s:=by
 match s,h with
 | [a,b,c,d,e],_=>rfl
theorem five {s:List Int} (h:s.length=5):[s.getD 0 0,s.getD 1 0,s.getD 2 0,s.getD 3 0,s.getD 4 0]=s:=fiveA h
def emptyS:List Int:=[0,0,0,0,0]
theorem empty_ok:SetOk emptyS:=⟨rfl,fun i=>by
 unfold emptyS
 match i with
 | 0 | 1 | 2 | 3 | 4=>exact u64_zero
 | _+5=>exact u64_zero⟩
theorem mem_empty (p:Nat):mem emptyS p=false:=by
 unfold mem emptyS
 have:∀ i,([0,0,0,0,0]:List Int).getD i 0=0:=fun i=>by
  match i with
  | 0 | 1 | 2 | 3 | 4=>rfl
  | _+5=>rfl
 rw [this,bt_zero]
theorem VC61_of {s:List Int} {p:Nat} (hs:SetOk s) (hp:p<320) {K:Bool→Prop} (h:K (mem s p)):VC61 s (p:Int) K:=by
 unfold VC61
 rw [fiveA hs.len]
 have e1:((p:Int) / 64).toNat=p / 64:=by omega
 have e2:((p:Int) % 64)=((p % 64:Nat):Int):=by omega
 rw [e1,e2]
 have hw:=hs.word (p / 64)
 refine ⟨⟨by omega,by omega⟩,⟨by omega,by omega⟩,⟨by omega,by omega⟩,⟨hw.1,by omega⟩,?_⟩
 rw [has_bt64 hw (by omega)]
 exact h
theorem getD_setI {s:List Int} {i j:Nat} {x:Int} (hi:i<s.length):(s.set i x).getD j 0=if i=j then x else s.getD j 0:=by
 simp only [List.getD_eq_getElem?_getD,List.getElem?_set]
 by_cases h:i=j
 ·subst h;simp [hi]
 ·simp [h]
theorem VC88_of {s:List Int} {p:Nat} (hs:SetOk s) (hp:p<320) {K:List Int→Prop} (h:∀ r,SetOk r→(∀ q,mem r q=(mem s q||decide (p=q)))→K r):VC88 s (p:Int) K:=by
 unfold VC88
 rw [fiveA hs.len]
 have e1:((p:Int) / 64).toNat=p / 64:=by omega
 have e2:((p:Int) % 64)=((p % 64:Nat):Int):=by omega
 rw [e1,e2]
 have hw:=hs.word (p / 64)
 have hl:=hs.len
 have hor:=u64_or hw (u64_shl1 ((p % 64:Nat):Int))
 refine ⟨⟨by omega,by omega⟩,⟨by omega,by omega⟩,⟨by omega,by omega⟩,by omega,⟨by omega,by omega⟩,?_⟩
 have h5:(s.set (p / 64) (bOr .u64 (s.getD (p / 64) 0) (bShl .u64 1 ((p % 64:Nat):Int)))).length=5:=by rw [List.length_set];exact hl
 rw [fiveA h5]
 refine h _ ⟨by rw [List.length_set];exact hl,fun i=>?_⟩ fun q=>?_
 ·rw [getD_setI (by omega)]
  split
  ·exact hor
  ·exact hs.word i
 ·unfold mem
  rw [getD_setI (by omega)]
  by_cases hq:p / 64=q / 64
  ·rw [if_pos hq,bt_or64 hw (u64_shl1 _),bt_shl164 (by omega),hq]
   congr 1
   by_cases hpq:p=q
   ·simp [hpq]
   ·have:¬p % 64=q % 64:=by omega
    simp [hpq,this]
  ·rw [if_neg hq]
   have:¬p=q:=by omega
   simp [this]
theorem VC102_of {s t:List Int} (hs:SetOk s) (ht:SetOk t) {K:List Int→Prop} (h:∀ r,SetOk r→(∀ q,mem r q=(mem s q||mem t q))→K r):VC102 s t K:=by
 unfold VC102
 rw [fiveA hs.len]
 refine Loop.by (fun x=>∃ i:Nat,x.1=(i:Int)∧i≤5∧SetOk x.2∧∀ j,x.2.getD j 0=if j<i then bOr .u64 (s.getD j 0) (t.getD j 0) else s.getD j 0) (fun x=>(5-x.1).toNat) ⟨0,rfl,by omega,hs,fun j=>by simp⟩ ?_
 rintro ⟨v,r⟩ ⟨i,rfl,hi,hr,hj⟩ X hX
 simp only at hr hj ⊢
 have hl:=hr.len
 unfold VC102_l1
 rw [fiveA ht.len]
 simp only [Int.toNat_natCast]
 refine ⟨fun hb=>?_,fun hb=>?_⟩
 ·simp only [decide_eq_true_eq] at hb
  refine ⟨⟨by omega,by omega⟩,⟨by omega,by omega⟩,⟨by omega,by omega⟩,⟨by omega,by omega⟩,hX _ ⟨i+1,by simp,by omega,⟨by simp only [List.length_set];exact hl,fun j=>?_⟩,fun j=>?_⟩ (by simp only;omega)⟩
  ·simp only
   rw [getD_setI (by omega)]
   split
   ·exact u64_or (hr.word i) (ht.word i)
   ·exact hr.word j
  ·simp only
   rw [getD_setI (by omega),hj i,hj j,if_neg (Nat.lt_irrefl i)]
   by_cases hij:i=j
   ·subst hij
    rw [if_pos rfl,if_pos (by omega)]
   ·rw [if_neg hij]
    by_cases hji:j<i
    ·rw [if_pos hji,if_pos (by omega)]
    ·rw [if_neg hji,if_neg (by omega)]
 ·simp only [decide_eq_false_iff_not] at hb
  have hi5:i=5:=by omega
  subst hi5
  unfold VC102_k1
  rw [fiveA hl]
  refine h r hr fun q=>?_
  unfold mem
  rw [hj]
  by_cases hq:q / 64<5
  ·rw [if_pos hq,bt_or64 (hs.word _) (ht.word _)]
  ·rw [if_neg hq]
   have e1:t.getD (q / 64) 0=0:=getD_ge 0 (by have:=ht.len;omega)
   rw [e1,bt_zero,Bool.or_false]
end Dec
namespace Dec
open Go Go.Proofs Rex
theorem getD_set_eq {e:List Bool} {i:Nat} {b:Bool} (hi:i<e.length):(e.set i b).getD i false=b:=by
 simp [List.getD_eq_getElem?_getD,hi]
theorem getD_set_ne {e:List Bool} {i t:Nat} {b:Bool} (h:t≠i):(e.set i b).getD t false=e.getD t false:=by
 simp [List.getD_eq_getElem?_getD,List.getElem?_set_ne (Ne.symm h)]
theorem VC49_of {k:Int} {l:List Nd} {K:List Bool×List Bool→Prop} (hg:Good k l) (h:∀ E N:List Bool,E.length=l.length→(∀ t,t<l.length→∀ w,(E.getD t false=true↔Mat l w t 0 0))→K (E,N)):VC49 l K:=by
 have hm:=hg.len
 unfold VC49
 refine ⟨⟨by omega,by omega⟩,⟨by omega,by omega⟩,?_⟩
 unfold VC49_k1
 simp only [Int.toNat_natCast]
 refine Loop.by (fun s=>∃ i:Nat,s.1=(i:Int)∧i≤l.length∧s.2.1.length=l.length∧s.2.2.length=l.length∧(∀ t,t<i→∀ w,(s.2.1.getD t false=true↔Mat l w t 0 0))∧∀ t,i≤t→s.2.1.getD t false=false) (fun s=>((l.length:Int)-s.1).toNat) ⟨0,rfl,by omega,by simp,by simp,fun t ht=>by omega,fun t _=>?_⟩ ?_
 ·simp only [List.getD_eq_getElem?_getD,List.getElem?_replicate]
  split <;> rfl
 rintro ⟨v,e,n⟩ ⟨i,hv,hi,he,hn,hP,hF⟩ X hX
 simp only at hv he hn hP hF ⊢
 subst hv
 unfold VC49_l1
 simp only [Int.toNat_natCast]
 refine ⟨fun hb=>?_,fun hb=>?_⟩
 ·simp only [decide_eq_true_eq] at hb
  have hil:i<l.length:=by omega
  have hok:=hg.ok i hil
  have hrefs:=refs hok
  have hat:∀ e' n':List Bool,e'.length=l.length→n'.length=l.length→((e'=e∧∀ w,¬Mat l w i 0 0)∨∃ b,e'=e.set i b∧∀ w,(b=true↔Mat l w i 0 0))→VC49_k3 (i:Int) X e' n':=by
   intro e' n' h1 h2 h3
   unfold VC49_k3
   refine ⟨⟨by omega,by omega⟩,hX _ ⟨i+1,by simp,by omega,h1,h2,fun t ht w=>?_,fun t ht=>?_⟩ (by simp only;omega)⟩
   ·rcases h3 with ⟨rfl,h3⟩ | ⟨b,rfl,h3⟩
    ·by_cases hti:t<i
     ·exact hP t hti w
     ·have:t=i:=by omega
      subst this
      rw [hF t (Nat.le_refl _)]
      exact ⟨fun hc=>(by cases hc),fun hc=>absurd hc (h3 w)⟩
    ·by_cases hti:t<i
     ·rw [getD_set_ne (by omega)];exact hP t hti w
     ·have:t=i:=by omega
      subst this
      rw [getD_set_eq (by omega)]
      exact h3 w
   ·rcases h3 with ⟨rfl,h3⟩ | ⟨b,rfl,h3⟩
    ·exact hF t (by omega)
    ·rw [getD_set_ne (by omega)];exact hF t (by omega)
  refine ⟨⟨by omega,by omega⟩,?_⟩
  obtain ⟨N,hN⟩:∃ N,l.getD i (0,(0,0))=N:=⟨_,rfl⟩
  have hN':nd l i=N:=hN
  rw [hN'] at hok hrefs
  refine ⟨fun h1=>?_,fun h1=>?_⟩
  ·simp only [hN,decide_eq_true_eq] at h1
   refine ⟨⟨by omega,by omega⟩,hat _ _ he (by simp [hn]) (.inl ⟨rfl,fun w=>?_⟩)⟩
   rw [eps_iff,hN']
   omega
  ·simp only [hN,decide_eq_false_iff_not] at h1
   have main:∀ b:Bool,(b=true↔N.1=2∨N.1=6)→VC49_k4 l (i:Int) e n X b:=by
    intro b hb
    unfold VC49_k4
    simp only [Int.toNat_natCast,hN]
    refine ⟨fun h2=>⟨⟨by omega,by omega⟩,?_⟩,fun h2=>⟨fun h4=>?_,fun h4=>⟨fun h5=>?_,fun h5=>?_⟩⟩⟩
    ·unfold VC49_k5
     refine hat _ _ (by simp [he]) hn (.inr ⟨true,rfl,fun w=>⟨fun _=>?_,fun _=>rfl⟩⟩)
     rw [eps_iff,hN']
     rcases hb.1 h2 with h | h
     ·exact .inl h
     ·exact .inr (.inr (.inr h))
    ·simp only [decide_eq_true_eq] at h4
     obtain ⟨hA,hB⟩:=hrefs.1 (.inl h4)
     have hA0:0≤N.2.1∧0≤N.2.2:=by unfold OkN at hok;omega
     have fin:VC49_k6 (i:Int) X (e.set i (e.getD N.2.1.toNat false&&e.getD N.2.2.toNat false)) (n.set i (n.getD N.2.1.toNat false||n.getD N.2.2.toNat false)):=by
      unfold VC49_k6 VC49_k5
      refine hat _ _ (by simp [he]) (by simp [hn]) (.inr ⟨_,rfl,fun w=>?_⟩)
      rw [eps_iff,hN',Bool.and_eq_true,hP _ hA w,hP _ hB w]
      constructor
      ·exact fun h=>.inr (.inl ⟨h4,h⟩)
      ·rintro (h | ⟨_,h⟩ | ⟨h,_⟩ | h)
       ·omega
       ·exact h
       ·omega
       ·omega
     refine ⟨⟨by omega,by omega⟩,⟨by omega,by omega⟩,⟨fun _=>⟨by omega,by omega⟩,fun _=>⟨by omega,by omega⟩,⟨by omega,by omega⟩,⟨by omega,by omega⟩,fin⟩,fun _=>⟨by omega,by omega⟩,fun _=>⟨by omega,by omega⟩,⟨by omega,by omega⟩,⟨by omega,by omega⟩,fin⟩
    ·simp only [decide_eq_true_eq] at h5
     obtain ⟨hA,hB⟩:=hrefs.1 (.inr h5)
     have hA0:0≤N.2.1∧0≤N.2.2:=by unfold OkN at hok;omega
     have fin:VC49_k7 (i:Int) X (e.set i (e.getD N.2.1.toNat false||e.getD N.2.2.toNat false)) (n.set i (n.getD N.2.1.toNat false&&n.getD N.2.2.toNat false)):=by
      unfold VC49_k7 VC49_k6 VC49_k5
      refine hat _ _ (by simp [he]) (by simp [hn]) (.inr ⟨_,rfl,fun w=>?_⟩)
      rw [eps_iff,hN',Bool.or_eq_true,hP _ hA w,hP _ hB w]
      constructor
      ·exact fun h=>.inr (.inr (.inl ⟨h5,h⟩))
      ·rintro (h | ⟨h,_⟩ | ⟨_,h⟩ | h)
       ·omega
       ·omega
       ·exact h
       ·omega
     refine ⟨⟨by omega,by omega⟩,⟨by omega,by omega⟩,⟨fun _=>⟨by omega,by omega⟩,fun _=>⟨by omega,by omega⟩,⟨by omega,by omega⟩,⟨by omega,by omega⟩,fin⟩,fun _=>⟨by omega,by omega⟩,fun _=>⟨by omega,by omega⟩,⟨by omega,by omega⟩,⟨by omega,by omega⟩,fin⟩
    ·simp only [decide_eq_false_iff_not] at h4 h5
     unfold VC49_k7 VC49_k6 VC49_k5
     refine hat _ _ he hn (.inl ⟨rfl,fun w=>?_⟩)
     have hb2:¬(N.1=2∨N.1=6):=fun h=>by rw [hb.2 h] at h2;cases h2
     rw [eps_iff,hN']
     omega
   simp only [hN]
   refine ⟨fun h2=>main _ ?_,fun h2=>main _ ?_⟩
   ·simp only [decide_eq_true_eq] at h2
    simp [h2]
   ·simp only [decide_eq_false_iff_not] at h2
    simp [h2]
 ·simp only [decide_eq_false_iff_not] at hb
  have hiN:i=l.length:=by omega
  unfold VC49_k2
  exact h e n he fun t ht=>hP t (by omega)
end Dec
namespace Dec
open Go Go.Proofs Rex Gly
def joinB (la:LI) (fi:LI) (sy:LI) (C:LL→Prop) (v13:Int) (l40002:LL) (X1:Int×LL→Prop):Prop :=
 (((decide (v13<(sy.length:Int)))=true→VC61 (a5 (a5 la)) v13 (fun (ret18v:Bool)=>((ret18v=true→(inIdx v13 l40002.length∧VC102 (a5 (l40002.getD ((v13).toNat) (List.replicate 5 (0:Int)))) (a5 (a5 fi)) (fun (ret34v:LI)=>(inIdx v13 l40002.length∧VCc93_k7 v13 X1 (l40002.set ((v13).toNat) (a5 ret34v))))))∧(ret18v=false→VCc93_k7 v13 X1 l40002))))∧((decide (v13<(sy.length:Int)))=false→C l40002))
abbrev D5:LI:=List.replicate 5 (0:Int)
def Fol (fo:LL) (q r:Nat):Prop:=mem (fo.getD q D5) r=true
structure SInv (sy:LI) (fo:LL):Prop where
 len:sy.length=fo.length
 ok:∀ q,q<fo.length→SetOk (fo.getD q D5)
theorem getD_setL {s:LL} {i j:Nat} {x:LI} (hi:i<s.length):(s.set i x).getD j D5=if i=j then x else s.getD j D5:=by
 simp only [List.getD_eq_getElem?_getD,List.getElem?_set]
 by_cases h:i=j
 ·subst h;simp [hi]
 ·simp [h]
theorem join_loop {C:LL→Prop} {sy:LI} {fo:LL} {la fi:LI} (hla:SetOk la) (hfi:SetOk fi) (hS:SInv sy fo) (hN:sy.length≤320)
  (h:∀ fo':LL,SInv sy fo'→(∀ q,mem la q=false→fo'.getD q D5=fo.getD q D5)→(∀ q r,q<sy.length→(mem (fo'.getD q D5) r=(mem (fo.getD q D5) r||(mem la q&&mem fi r))))→C fo') :
  Loop (σ:=Int×LL) (fun s X=>joinB la fi sy C s.1 s.2 X) ((0:Int),fo):=by
 refine Loop.by (fun x=>∃ i:Nat,x.1=(i:Int)∧i≤sy.length∧SInv sy x.2∧(∀ q,mem la q=false∨i≤q→x.2.getD q D5=fo.getD q D5)∧∀ q r,q<i→(mem (x.2.getD q D5) r=(mem (fo.getD q D5) r||(mem la q&&mem fi r)))) (fun x=>((sy.length:Int)-x.1).toNat) ⟨0,rfl,by omega,hS,fun _ _=>rfl,fun q r hq=>by omega⟩ ?_
 rintro ⟨v,f⟩ ⟨i,rfl,hi,hf,hq1,hq2⟩ X hX
 simp only at hf hq1 hq2 ⊢
 have hlen:=hf.len
 unfold joinB
 have e1:=five hla.len
 have e2:=five hfi.len
 simp only [a5,e1,e2,Int.toNat_natCast]
 refine ⟨fun hb=>?_,fun hb=>?_⟩
 ·simp only [decide_eq_true_eq] at hb
  have hil:i<sy.length:=by omega
  have hok:=hf.ok i (by omega)
  refine VC61_of hla (by omega) ⟨fun hm=>⟨⟨by omega,by omega⟩,?_⟩,fun hm=>?_⟩
  ·simp only [a5,five hok.len]
   refine VC102_of hok hfi fun r hr hmr=>⟨⟨by omega,by omega⟩,?_⟩
   simp only [a5,five hr.len]
   unfold VCc93_k7
   refine ⟨⟨by omega,by omega⟩,hX _ ⟨i+1,by simp,by omega,⟨by simp only [List.length_set];exact hlen,fun q hq=>?_⟩,fun q hq=>?_,fun q r' hq=>?_⟩ (by simp only;omega)⟩
   ·simp only [List.length_set] at hq
    simp only
    rw [getD_setL (by omega)]
    split
    ·exact hr
    ·exact hf.ok q hq
   ·simp only
    rw [getD_setL (by omega)]
    split
    ·rename_i hiq
     subst hiq
     rcases hq with hq | hq
     ·rw [hm] at hq;cases hq
     ·omega
    ·exact hq1 q (hq.imp id (by omega))
   ·simp only
    rw [getD_setL (by omega)]
    split
    ·rename_i hiq
     subst hiq
     rw [hmr,hq1 i (.inr (Nat.le_refl _)),hm,Bool.true_and]
    ·exact hq2 q r' (by omega)
  ·unfold VCc93_k7
   refine ⟨⟨by omega,by omega⟩,hX _ ⟨i+1,by simp,by omega,hf,fun q hq=>hq1 q (hq.imp id (by omega)),fun q r' hq=>?_⟩ (by simp only;omega)⟩
   by_cases hqi:q<i
   ·exact hq2 q r' hqi
   ·have:q=i:=by omega
    subst this
    simp only
    rw [hq1 q (.inr (Nat.le_refl _)),hm,Bool.false_and,Bool.or_false]
 ·simp only [decide_eq_false_iff_not] at hb
  have hiN:i=sy.length:=by omega
  subst hiN
  exact h f hf (fun q hq=>hq1 q (.inl hq)) hq2
theorem eps_any {l:List Nd} {E:List Bool} (hEm:∀ t,t<l.length→∀ w,(E.getD t false=true↔Mat l w t 0 0)) {t:Nat} (ht:t<l.length):∀ (a:Nat) (w:List Int),a≤w.length→(Mat l w t a a↔E.getD t false=true)
 | 0,w,_=>(hEm t ht w).symm
 | a+1,[],h=>by simp at h
 | a+1,s::v,h=>by
  rw [mat_shift_iff]
  exact eps_any hEm ht a v (by simpa using h)
theorem pow_two_le {a i:Nat} (h:a<i):2 ^ a*2≤2 ^ i:=by
 rw [←Nat.pow_succ]
 exact Nat.pow_le_pow_right (by omega) (by omega)
structure Built (l:List Nd) (k:Int) (i:Nat) (sy:LI) (fo:LL) (fi la:LI) (sy':LI) (fo':LL):Prop where
 inv:SInv sy' fo'
 more:sy.length≤sy'.length
 few:sy'.length≤sy.length+2 ^ i
 old:∀ q,q<sy.length→sy'.getD q 0=sy.getD q 0∧fo'.getD q D5=fo.getD q D5
 sgn:∀ q,sy.length≤q→q<sy'.length→0≤sy'.getD q 0∧sy'.getD q 0<k
 fiok:SetOk fi
 laok:SetOk la
 frag:∀ w,Frag (Fol fo') (fun q=>sy'.getD q 0) w sy.length sy'.length (fun q=>mem fi q=true) (fun q=>mem la q=true) (Mat l w i)
 cnt:sy'.length=sy.length+cnt (tr l i)
 pos:∀ w,Pos (Fol fo') (fun q=>sy'.getD q 0) w sy.length (fun q=>mem fi q=true) (tr l i)
theorem getD_app {α:Type} {s e:List α} {q:Nat} {d:α} (h:q<s.length):(s++e).getD q d=s.getD q d:=by
 simp only [List.getD_eq_getElem?_getD,List.getElem?_append_left h]
theorem getD_last {α:Type} {s:List α} {x d:α} : (s++[x]).getD s.length d=x:=by
 simp [List.getD_eq_getElem?_getD]
theorem Built.keep {l:List Nd} {k:Int} {i j:Nat} {sy sy1 sy2:LI} {fo fo1 fo2:LL} {fi la fi2 la2:LI} (h1:Built l k i sy fo fi la sy1 fo1) (h2:Built l k j sy1 fo1 fi2 la2 sy2 fo2) (w:List Int) :
  Frag (Fol fo2) (fun q=>sy2.getD q 0) w sy.length sy1.length (fun q=>mem fi q=true) (fun q=>mem la q=true) (Mat l w i):=by
 refine (h1.frag w).congr (fun q r hq1 hq2=>?_) (fun q hq1 hq2=>((h2.old q hq2).1).symm)
 unfold Fol
 rw [(h2.old q hq2).2]
theorem Built.keepP {l:List Nd} {k:Int} {i j:Nat} {sy sy1 sy2:LI} {fo fo1 fo2:LL} {fi la fi2 la2:LI} (h1:Built l k i sy fo fi la sy1 fo1) (h2:Built l k j sy1 fo1 fi2 la2 sy2 fo2) (w:List Int) :
  Pos (Fol fo2) (fun q=>sy2.getD q 0) w sy.length (fun q=>mem fi q=true) (tr l i):=by
 refine pos_congr (N1:=sy1.length) (fun q hq=>(h1.frag w).fin q hq) (fun q hq1 hq2 r hr=>(h1.frag w).fol q hq1 hq2 r hr) (h1.pos w) (fun q r hq1 hq2=>?_) (fun q hq1 hq2=>((h2.old q hq2).1).symm) (fun q=>Iff.rfl)
 unfold Fol
 rw [(h2.old q hq2).2]
theorem pos_fi {F:Nat→Nat→Prop} {sy:Nat→Int} {w:List Int} {N:Nat} {fi fi':Nat→Prop} {r:Rg} (h:Pos F sy w N fi r) (e:∀ q,fi q↔fi' q):Pos F sy w N fi' r:=by
 have:fi=fi':=funext fun q=>propext (e q)
 rw [←this];exact h
theorem build_of {k:Int} {l:List Nd} {E:List Bool} (hg:Good k l) (hE:E.length=l.length) (hEm:∀ t,t<l.length→∀ w,(E.getD t false=true↔Mat l w t 0 0)) (c2 c3 c4 c5 c6:Int) :
  ∀ (n i:Nat) (x:Int) (sy:LI) (fo:LL) {K:(LI×(LI×Bool))×LI×LL→Prop},x=(i:Int)→i<n→i<l.length→SInv sy fo→sy.length+2 ^ i≤320 →
  (∀ fi la sy' fo',Built l k i sy fo fi la sy' fo'→K ((fi,(la,E.getD i false)),sy',fo'))→VCc93_it l E c2 c3 c4 c5 c6 n x sy fo K
 | 0,i,x,sy,fo,K,_,hn,_,_,_,_=>by omega
 | n+1,i,x,sy,fo,K,hx,hn,hi,hS,hlen,h=>by
  subst hx
  show VCc93 l E c2 c3 c4 c5 c6 (VCc93_it l E c2 c3 c4 c5 c6 n) (i:Int) sy fo K
  have hpos:=Nat.two_pow_pos i
  have hok:=hg.ok i hi
  have hrefs:=refs hok
  have hSl:=hS.len
  unfold VCc93
  simp only [Int.toNat_natCast]
  refine ⟨⟨by omega,by omega⟩,⟨by omega,by omega⟩,?_⟩
  obtain ⟨N,hN⟩:∃ N,l.getD i z3=N:=⟨_,rfl⟩
  have hN':nd l i=N:=hN
  rw [hN'] at hok hrefs
  simp only [hN]
  refine ⟨fun k3=>?_,fun k3=>⟨fun k4=>?_,fun k4=>⟨fun k5=>?_,fun k5=>⟨fun k6=>?_,fun k6=>?_⟩⟩⟩⟩
  ·simp only [decide_eq_true_eq] at k3
   refine ⟨by unfold roomN;simp only [List.length_singleton];omega,by unfold roomN;simp only [List.length_singleton];omega,?_⟩
   refine VC88_of empty_ok (by omega) fun f1 hf1 hm1=>VC88_of empty_ok (by omega) fun f2 hf2 hm2=>?_
   unfold VCc93_k2 VCc93_k1
   simp only [a5,five hf1.len,five hf2.len]
   simp only [Int.toNat_natCast,hN]
   have hA:0≤N.2.1∧N.2.1<k:=by unfold OkN at hok;omega
   have hget:∀ q,q<(fo++[emptyS]).length→SetOk ((fo++[emptyS]).getD q D5):=by
    intro q hq
    simp only [List.length_append,List.length_singleton] at hq
    by_cases hqf:q<fo.length
    ·rw [getD_app hqf];exact hS.ok q hqf
    ·have:q=fo.length:=by omega
     subst this
     rw [getD_last];exact empty_ok
   refine h f1 f2 (sy++[N.2.1]) (fo++[emptyS]) ⟨⟨by simp [hSl],hget⟩,by simp,by simp only [List.length_append,List.length_singleton];omega,fun q hq=>⟨getD_app hq,getD_app (by omega)⟩,fun q hq1 hq2=>?_,hf1,hf2,fun w=>?_,?_,fun w=>?_⟩
   ·simp only [List.length_append,List.length_singleton] at hq2
    have:q=sy.length:=by omega
    subst this
    rw [getD_last];exact hA
   ·have e1:(sy++[N.2.1]).length=sy.length+1:=by simp
    simp only [a5,e1]
    refine (frag_sym (F:=Fol (fo++[emptyS])) (sy:=fun q=>(sy++[N.2.1]).getD q 0) (N:=sy.length) (fun r hr=>?_) (M:=Mat l w i) (fun a b=>?_)).same (fun q=>?_) (fun q=>?_) (fun a b _=>Iff.rfl)
    ·unfold Fol at hr
     rw [hSl,getD_last,mem_empty] at hr
     cases hr
    ·rw [mat_iff,hN',getD_last]
     constructor
     ·rintro (⟨h,_⟩ | ⟨_,h⟩ | ⟨h,_⟩ | ⟨h,_⟩ | ⟨h,_⟩)
      ·omega
      ·exact h
      all_goals omega
     ·exact fun h=>.inr (.inl ⟨k3,h⟩)
    ·rw [hm1,mem_empty,Bool.false_or,decide_eq_true_eq];omega
    ·rw [hm2,mem_empty,Bool.false_or,decide_eq_true_eq];omega
   ·rw [tr_sy hg.ok hi (by rw [hN'];exact k3)];simp [cnt]
   ·have ps:=pos_sym (F:=Fol (fo++[emptyS])) (sy:=fun q=>(sy++[N.2.1]).getD q 0) (w:=w) (N:=sy.length) (fun r hr=>by
     unfold Fol at hr
     rw [hSl,getD_last,mem_empty] at hr
     cases hr)
    simp only [getD_last] at ps
    rw [tr_sy hg.ok hi (by rw [hN'];exact k3),hN']
    exact pos_fi ps fun q=>by rw [hm1,mem_empty,Bool.false_or,decide_eq_true_eq];omega
  ·simp only [decide_eq_true_eq] at k4
   obtain ⟨hA,hB⟩:=hrefs.1 (.inl k4)
   have hA0:0≤N.2.1∧0≤N.2.2:=by unfold OkN at hok;omega
   have pA:=pow_two_le hA
   have pB:=pow_two_le hB
   refine build_of hg hE hEm c2 c3 c4 c5 c6 n N.2.1.toNat N.2.1 sy fo (by omega) (by omega) (by omega) hS (by omega) fun f1 l1 sy1 fo1 b1=>?_
   have q1:=b1.few
   simp only
   refine build_of hg hE hEm c2 c3 c4 c5 c6 n N.2.2.toNat N.2.2 sy1 fo1 (by omega) (by omega) (by omega) b1.inv (by omega) fun f2 l2 sy2 fo2 b2=>?_
   have q2:=b2.few
   have m1:=b1.more
   have m2:=b2.more
   refine join_loop (C:=VCc93_k4 E (i:Int) K ((f1,(l1,E.getD N.2.1.toNat false)),sy1,fo1) ((f2,(l2,E.getD N.2.2.toNat false)),sy2,fo2)) (la:=l1) (fi:=f2) (sy:=sy2) (fo:=fo2) b1.laok b2.fiok b2.inv (by omega) fun fo3 hS3 hold hnew=>?_
   have fin:∀ f l',SetOk f→SetOk l'→(∀ q,mem f q=true↔mem f1 q=true∨(E.getD N.2.1.toNat false=true∧mem f2 q=true))→(∀ q,mem l' q=true↔mem l2 q=true∨(E.getD N.2.2.toNat false=true∧mem l1 q=true))→K ((f,(l',E.getD i false)),sy2,fo3):=by
    intro f l' hf hl' hfm hlm
    have hla1:∀ q,mem l1 q=true→sy.length≤q∧q<sy1.length:=fun q hq=>(b1.frag []).lan q hq
    refine h f l' sy2 fo3 ⟨hS3,by omega,by omega,fun q hq=>⟨?_,?_⟩,fun q hq1 hq2=>?_,hf,hl',fun w=>?_,?_,fun w=>?_⟩
    ·rw [(b2.old q (by omega)).1,(b1.old q hq).1]
    ·rw [hold q,(b2.old q (by omega)).2,(b1.old q hq).2]
     cases hm:mem l1 q with
     | false=>rfl
     | true=>have:=hla1 q hm;omega
    ·by_cases hq3:q<sy1.length
     ·rw [(b2.old q hq3).1];exact b1.sgn q hq1 hq3
     ·exact b2.sgn q (by omega) hq2
    ·have g1:=b1.keep b2 w
     have g2:=b2.frag w
     have g3:=frag_cat (F':=Fol fo3) (ex:=E.getD N.2.1.toNat false=true) (ey:=E.getD N.2.2.toNat false=true) g1 g2 (fun q r hq1 hq2=>by
      unfold Fol
      rw [hnew q r hq2,Bool.or_eq_true,Bool.and_eq_true]) (fun a b hh=>hh.le) (fun a b hh=>hh.le) (fun a ha=>eps_any hEm (by omega) a w ha) (fun a ha=>eps_any hEm (by omega) a w ha)
     refine g3.same (fun q=>(hfm q).symm) (fun q=>(hlm q).symm) (fun a b hab=>?_)
     rw [mat_iff (t:=i),hN']
     constructor
     ·rintro ⟨m,h1,h2⟩
      exact .inr (.inr (.inl ⟨k4,m,h1,h2⟩))
     ·rintro (⟨h,_⟩ | ⟨h,_⟩ | ⟨_,h⟩ | ⟨h,_⟩ | ⟨h,_⟩)
      ·omega
      ·omega
      ·exact h
      ·omega
      ·omega
    ·rw [tr_ca hg.ok hi (by rw [hN'];exact k4),hN']
     have c1:=b1.cnt
     have c2:=b2.cnt
     show _=_+(cnt _+cnt _)
     omega
    ·rw [tr_ca hg.ok hi (by rw [hN'];exact k4),hN']
     have c1:=b1.cnt
     have c2:=b2.cnt
     refine pos_fi (pos_cat (F:=Fol fo2) (ex:=E.getD N.2.1.toNat false=true) (b1.keep b2 w) (b2.frag w) (fun q r hq1 hq2=>by
      unfold Fol
      rw [hnew q r hq2,Bool.or_eq_true,Bool.and_eq_true]) (b1.keepP b2 w) (b2.pos w) c1 c2 (fun a b hab hb=>mat_lg hg.ok _ (by omega) a b hab hb) (fun a ha=>eps_any hEm (by omega) a w ha)) fun q=>(hfm q).symm
   have e1:=five b1.fiok.len
   have e2:=five b1.laok.len
   have e3:=five b2.fiok.len
   have e4:=five b2.laok.len
   have last:∀ f,SetOk f→(∀ q,mem f q=true↔mem f1 q=true∨(E.getD N.2.1.toNat false=true∧mem f2 q=true))→VCc93_k5 E (i:Int) K ((f1,(l1,E.getD N.2.1.toNat false)),sy1,fo1) ((f2,(l2,E.getD N.2.2.toNat false)),sy2,fo2) fo3 (f.getD 0 0) (f.getD 1 0) (f.getD 2 0) (f.getD 3 0) (f.getD 4 0):=by
    intro f hf hfm
    have e5:=five hf.len
    unfold VCc93_k5
    simp only [a5,e2,e4]
    refine ⟨fun he=>VC102_of b2.laok b1.laok fun r hr hm=>?_,fun he=>?_⟩
    ·unfold VCc93_k6 VCc93_k3 VCc93_k1
     simp only [a5,e5,five hr.len]
     simp only [Int.toNat_natCast]
     refine fin f r hf hr hfm fun q=>?_
     rw [hm,Bool.or_eq_true]
     constructor
     ·rintro (hh | hh)
      ·exact .inl hh
      ·exact .inr ⟨he,hh⟩
     ·rintro (hh | hh)
      ·exact .inl hh
      ·exact .inr hh.2
    ·unfold VCc93_k6 VCc93_k3 VCc93_k1
     simp only
     simp only [a5,e5,e4]
     simp only [Int.toNat_natCast]
     refine fin f l2 hf b2.laok hfm fun q=>?_
     constructor
     ·exact fun hh=>.inl hh
     ·rintro (hh | hh)
      ·exact hh
      ·rw [he] at hh;cases hh.1
   unfold VCc93_k4
   simp only [a5,e1,e3]
   refine ⟨fun he=>VC102_of b1.fiok b2.fiok fun r hr hm=>last r hr fun q=>?_,fun he=>last f1 b1.fiok fun q=>?_⟩
   ·rw [hm,Bool.or_eq_true]
    constructor
    ·rintro (hh | hh)
     ·exact .inl hh
     ·exact .inr ⟨he,hh⟩
    ·rintro (hh | hh)
     ·exact .inl hh
     ·exact .inr hh.2
   ·constructor
    ·exact fun hh=>.inl hh
    ·rintro (hh | hh)
     ·exact hh
     ·rw [he] at hh;cases hh.1
  ·simp only [decide_eq_true_eq] at k5
   obtain ⟨hA,hB⟩:=hrefs.1 (.inr k5)
   have hA0:0≤N.2.1∧0≤N.2.2:=by unfold OkN at hok;omega
   have pA:=pow_two_le hA
   have pB:=pow_two_le hB
   refine build_of hg hE hEm c2 c3 c4 c5 c6 n N.2.1.toNat N.2.1 sy fo (by omega) (by omega) (by omega) hS (by omega) fun f1 l1 sy1 fo1 b1=>?_
   have q1:=b1.few
   simp only
   refine build_of hg hE hEm c2 c3 c4 c5 c6 n N.2.2.toNat N.2.2 sy1 fo1 (by omega) (by omega) (by omega) b1.inv (by omega) fun f2 l2 sy2 fo2 b2=>?_
   have q2:=b2.few
   have m1:=b1.more
   have m2:=b2.more
   have e1:=five b1.fiok.len
   have e2:=five b1.laok.len
   have e3:=five b2.fiok.len
   have e4:=five b2.laok.len
   simp only [a5,e1,e2,e3,e4]
   refine VC102_of b1.fiok b2.fiok fun r hr hm=>VC102_of b1.laok b2.laok fun r2 hr2 hm2=>?_
   unfold VCc93_k8 VCc93_k3 VCc93_k1
   simp only [a5,five hr.len,five hr2.len]
   simp only [Int.toNat_natCast]
   refine h r r2 sy2 fo2 ⟨b2.inv,by omega,by omega,fun q hq=>⟨?_,?_⟩,fun q hq1 hq2=>?_,hr,hr2,fun w=>?_,?_,fun w=>?_⟩
   ·rw [(b2.old q (by omega)).1,(b1.old q hq).1]
   ·rw [(b2.old q (by omega)).2,(b1.old q hq).2]
   ·by_cases hq3:q<sy1.length
    ·rw [(b2.old q hq3).1];exact b1.sgn q hq1 hq3
    ·exact b2.sgn q (by omega) hq2
   ·refine (frag_or (b1.keep b2 w) (b2.frag w)).same (fun q=>?_) (fun q=>?_) (fun a b hab=>?_)
    ·rw [hm,Bool.or_eq_true]
    ·rw [hm2,Bool.or_eq_true]
    ·rw [left_or (i:=i) (by rw [hN'];exact k5),hN']
   ·rw [tr_al hg.ok hi (by rw [hN'];exact k5),hN']
    have c1:=b1.cnt
    have c2:=b2.cnt
    show _=_+(cnt _+cnt _)
    omega
   ·rw [tr_al hg.ok hi (by rw [hN'];exact k5),hN']
    refine pos_fi (pos_or (b1.keep b2 w) (b2.frag w) (b1.keepP b2 w) (b2.pos w) b1.cnt) fun q=>?_
    rw [hm,Bool.or_eq_true]
  ·simp only [decide_eq_true_eq] at k6
   have hA:=hrefs.2 k6
   have hA0:0≤N.2.1:=by unfold OkN at hok;omega
   have pA:=pow_two_le hA
   refine build_of hg hE hEm c2 c3 c4 c5 c6 n N.2.1.toNat N.2.1 sy fo (by omega) (by omega) (by omega) hS (by omega) fun f1 l1 sy1 fo1 b1=>?_
   have q1:=b1.few
   have m1:=b1.more
   refine join_loop (C:=VCc93_k10 E (i:Int) K ((f1,(l1,E.getD N.2.1.toNat false)),sy1,fo1)) (la:=l1) (fi:=f1) (sy:=sy1) (fo:=fo1) b1.laok b1.fiok b1.inv (by omega) fun fo3 hS3 hold hnew=>?_
   have hla1:∀ q,mem l1 q=true→sy.length≤q∧q<sy1.length:=fun q hq=>(b1.frag []).lan q hq
   have e1:=five b1.fiok.len
   have e2:=five b1.laok.len
   unfold VCc93_k10 VCc93_k9 VCc93_k8 VCc93_k3 VCc93_k1
   simp only
   simp only [a5,e1,e2]
   simp only [Int.toNat_natCast]
   refine h f1 l1 sy1 fo3 ⟨hS3,by omega,by omega,fun q hq=>⟨(b1.old q hq).1,?_⟩,fun q hq1 hq2=>b1.sgn q hq1 hq2,b1.fiok,b1.laok,fun w=>?_,?_,fun w=>?_⟩
   ·rw [hold q,(b1.old q hq).2]
    cases hm:mem l1 q with
    | false=>rfl
    | true=>have:=hla1 q hm;omega
   ·have g3:=frag_star (F':=Fol fo3) (b1.frag w) (fun q r hq1 hq2=>by
     unfold Fol
     rw [hnew q r hq2,Bool.or_eq_true,Bool.and_eq_true])
    refine g3.same (fun q=>Iff.rfl) (fun q=>Iff.rfl) (fun a b hab=>?_)
    have hk:(nd l i).1=6:=by rw [hN'];exact k6
    have:=plus_star (w:=w) hk hab
    rw [hN'] at this
    exact this
   ·rw [tr_st hg.ok hi (by rw [hN'];exact k6),hN'];exact b1.cnt
   ·rw [tr_st hg.ok hi (by rw [hN'];exact k6),hN']
    exact pos_star (F:=Fol fo1) (b1.frag w) (fun q r hq1 hq2=>by
     unfold Fol
     rw [hnew q r hq2,Bool.or_eq_true,Bool.and_eq_true]) (b1.pos w) b1.cnt (fun a b hab hb=>mat_lg hg.ok _ (by omega) a b hab hb)
  ·simp only [decide_eq_false_iff_not] at k3 k4 k5 k6
   have hk:N.1=1∨N.1=2:=by unfold OkN at hok;omega
   unfold VCc93_k9 VCc93_k8 VCc93_k3 VCc93_k1
   simp only [Int.toNat_natCast]
   refine h emptyS emptyS sy fo ⟨hS,by omega,by omega,fun q hq=>⟨rfl,rfl⟩,fun q hq1 hq2=>by omega,empty_ok,empty_ok,fun w=>?_,by rw [tr_no hg.ok hi (by rw [hN'];exact hk)];rfl,fun w p a b hp=>by rw [tr_no hg.ok hi (by rw [hN'];exact hk)] at hp;omega⟩
   refine (frag_none (Fol fo) (fun q=>sy.getD q 0) w sy.length (M:=Mat l w i) (fun a b hab hm=>?_)).same (fun q=>by rw [mem_empty];simp) (fun q=>by rw [mem_empty];simp) (fun a b _=>Iff.rfl)
   rcases mat_iff.1 hm with ⟨_,h,_⟩ | ⟨h,_⟩ | ⟨h,_⟩ | ⟨h,_⟩ | ⟨h,_⟩
   ·omega
   all_goals (rw [hN'] at h;omega)
end Dec
namespace Dec
open Go Go.Proofs Rex Gly
abbrev Kn:=List ((Int×(Int×Int))×Int)
structure Pool (k:Int) (l:LN) (kn:Kn):Prop where
 ok:∀ t,t<l.length→OkN k t (nd l t)
 known:∀ n v,mget kn n=some v→∃ t:Nat,t<l.length∧v=(t:Int)∧nd l t=n
def Ext (l l':LN) (c:Nat):Prop:=∃ e,l'=l++e∧e.length≤c
theorem Ext.refl (l:LN) (c:Nat):Ext l l c:=⟨[],by simp,by simp⟩
theorem Ext.trans {a b c:LN} {m n:Nat} (h:Ext a b m) (h2:Ext b c n):Ext a c (m+n):=by
 obtain ⟨e,rfl,h3⟩:=h
 obtain ⟨f,rfl,h4⟩:=h2
 exact ⟨e++f,by rw [List.append_assoc],by rw [List.length_append];omega⟩
theorem Ext.len {a b:LN} {m:Nat} (h:Ext a b m):a.length≤b.length∧b.length≤a.length+m:=by
 obtain ⟨e,rfl,h3⟩:=h
 rw [List.length_append];omega
theorem tree_app {k:Int} {l e:LN} (hok:∀ t,t<l.length→OkN k t (nd l t)):∀ n t,t<l.length→tree (l++e) n t=tree l n t
 | 0,_,_=>rfl
 | n+1,t,ht=>by
  have hr:=refs (hok t ht)
  unfold tree
  rw [nd_app ht]
  split
  ·rfl
  split
  ·rfl
  split
  ·rename_i h
   have:=hr.1 (.inl h)
   rw [tree_app hok n _ (by omega),tree_app hok n (nd l t).2.2.toNat (by omega)]
  split
  ·rename_i h
   have:=hr.1 (.inr h)
   rw [tree_app hok n _ (by omega),tree_app hok n (nd l t).2.2.toNat (by omega)]
  split
  ·rename_i h
   have:=hr.2 h
   rw [tree_app hok n _ (by omega)]
  ·rfl
theorem tr_app {k:Int} {l e:LN} (hok:∀ t,t<l.length→OkN k t (nd l t)) {t:Nat} (ht:t<l.length):tr (l++e) t=tr l t:=tree_app hok _ t ht
theorem lg_no {k:Int} {l:LN} (hok:∀ t,t<l.length→OkN k t (nd l t)) {t:Nat} (ht:t<l.length) (hk:(nd l t).1=1) (w:List Int):¬Lg (tr l t) w:=by
 rcases shape hok ht with ⟨h,e⟩ | ⟨h,e⟩ | ⟨h,e⟩ | ⟨h,x,y,ex,ey,hx,hy,e⟩ | ⟨h,x,y,ex,ey,hx,hy,e⟩ | ⟨h,x,ex,hx,e⟩
 all_goals first | (rw [e];exact id) | (exfalso;omega)
theorem lg_ep {k:Int} {l:LN} (hok:∀ t,t<l.length→OkN k t (nd l t)) {t:Nat} (ht:t<l.length) (hk:(nd l t).1=2) (w:List Int):Lg (tr l t) w↔w=[]:=by
 rcases shape hok ht with ⟨h,e⟩ | ⟨h,e⟩ | ⟨h,e⟩ | ⟨h,x,y,ex,ey,hx,hy,e⟩ | ⟨h,x,y,ex,ey,hx,hy,e⟩ | ⟨h,x,ex,hx,e⟩
 all_goals first | (exfalso;omega) | (rw [e];exact Iff.rfl)
def Ent (l:LN) (x:Int) (L:List Int→Prop):Prop:=∃ t:Nat,x=(t:Int)∧t<l.length∧∀ w,Lg (tr l t) w↔L w
theorem Ent.ext {k:Int} {l l':LN} {kn:Kn} {c:Nat} (hP:Pool k l kn) (h:Ext l l' c) {x:Int} {L:List Int→Prop} (he:Ent l x L):Ent l' x L:=by
 obtain ⟨e,rfl,_⟩:=h
 obtain ⟨t,h1,h2,h3⟩:=he
 exact ⟨t,h1,by rw [List.length_append];omega,fun w=>by rw [tr_app hP.ok h2];exact h3 w⟩
theorem Ent.congr {l:LN} {x:Int} {L L':List Int→Prop} (he:Ent l x L) (h:∀ w,L w↔L' w):Ent l x L':=by
 obtain ⟨t,h1,h2,h3⟩:=he
 exact ⟨t,h1,h2,fun w=>(h3 w).trans (h w)⟩
theorem add_of {k:Int} {l:LN} {kn:Kn} (hP:Pool k l kn) (hl:l.length≤100000) {a b c:Int} (hn:OkN k l.length (a,(b,c))) {K:Int×LN×Kn→Prop}
  (h:∀ (t:Nat) l' kn',Pool k l' kn'→Ext l l' 1→t<l'.length→nd l' t=(a,(b,c))→K ((t:Int),l',kn')):VCcr65 a b c l kn K:=by
 refine ⟨1,?_⟩
 show VCc65 (VCc65_it 0) a b c l kn K
 unfold VCc65
 refine ⟨fun hno=>?_,fun hyes=>?_⟩
 ·have hnone:mget kn (a,(b,c))=none:=by
   cases hmg:mget kn (a,(b,c)) with
   | none=>rfl
   | some v=>rw [hmg] at hno;simp at hno
  refine ⟨by unfold roomN;simp only [List.length_singleton];omega,?_⟩
  unfold VCc65_k1
  have hlast:nd (l++[(a,(b,c))]) l.length=(a,(b,c)):=getD_last
  refine h l.length _ _ ⟨fun t ht=>?_,fun n v hv=>?_⟩ ⟨[(a,(b,c))],rfl,by simp⟩ (by simp) hlast
  ·rw [List.length_append,List.length_singleton] at ht
   by_cases h1:t<l.length
   ·rw [nd_app h1];exact hP.ok t h1
   ·have:t=l.length:=by omega
    subst this
    rw [hlast];exact hn
  ·rw [mget_mset] at hv
   by_cases e:n=(a,(b,c))
   ·rw [if_pos e] at hv
    injection hv with hv
    exact ⟨l.length,by simp,hv.symm,by rw [hlast,e]⟩
   ·rw [if_neg e] at hv
    obtain ⟨t,h1,h2,h3⟩:=hP.known n v hv
    exact ⟨t,by rw [List.length_append];omega,h2,by rw [nd_app h1];exact h3⟩
 ·obtain ⟨v,hv⟩:∃ v,mget kn (a,(b,c))=some v:=by
   cases hmg:mget kn (a,(b,c)) with
   | none=>rw [hmg] at hyes;simp at hyes
   | some v=>exact ⟨v,rfl⟩
  obtain ⟨t,h1,h2,h3⟩:=hP.known _ v hv
  unfold VCc65_k1
  rw [hv]
  simp only [Option.getD_some]
  rw [h2]
  exact h t l kn hP (Ext.refl l 1) h1 h3
theorem sym_of {k:Int} {l:LN} {kn:Kn} (hP:Pool k l kn) (hl:l.length≤100000) {s:Int} (hs:0≤s∧s<k) {K:Int×LN×Kn→Prop}
  (h:∀ r l' kn',Pool k l' kn'→Ext l l' 1→Ent l' r (fun w=>w=[s])→K (r,l',kn')):VCcr65 3 s 0 l kn K :=
 add_of hP hl (.inr (.inr (.inl ⟨rfl,hs.1,hs.2⟩))) fun t l' kn' hP' he ht hn=>h _ l' kn' hP' he ⟨t,rfl,ht,fun w=>by
  rw [tr_sy hP'.ok ht (by rw [hn]),hn];exact Iff.rfl⟩
theorem ep_of {k:Int} {l:LN} {kn:Kn} (hP:Pool k l kn) (hl:l.length≤100000) {K:Int×LN×Kn→Prop}
  (h:∀ r l' kn',Pool k l' kn'→Ext l l' 1→Ent l' r (fun w=>w=[])→K (r,l',kn')):VCcr65 2 0 0 l kn K :=
 add_of hP hl (.inr (.inl rfl)) fun t l' kn' hP' he ht hn=>h _ l' kn' hP' he ⟨t,rfl,ht,fun w=>lg_ep hP'.ok ht (by rw [hn]) w⟩
theorem no_of {k:Int} {l:LN} {kn:Kn} (hP:Pool k l kn) (hl:l.length≤100000) {K:Int×LN×Kn→Prop}
  (h:∀ r l' kn',Pool k l' kn'→Ext l l' 1→Ent l' r (fun _=>False)→K (r,l',kn')):VCcr65 1 0 0 l kn K :=
 add_of hP hl (.inl rfl) fun t l' kn' hP' he ht hn=>h _ l' kn' hP' he ⟨t,rfl,ht,fun w=>⟨lg_no hP'.ok ht (by rw [hn]) w,fun h=>h.elim⟩⟩
theorem or_of {k:Int} {l:LN} {kn:Kn} (hP:Pool k l kn) (hl:l.length≤100000) {x y:Int} {A B:List Int→Prop} (hx:Ent l x A) (hy:Ent l y B) {K:Int×LN×Kn→Prop}
  (h:∀ r l' kn',Pool k l' kn'→Ext l l' 1→Ent l' r (fun w=>A w∨B w)→K (r,l',kn')):VCcr67 x y l kn K:=by
 obtain ⟨a,rfl,ha,hA⟩:=hx
 obtain ⟨b,rfl,hb,hB⟩:=hy
 refine ⟨1,?_⟩
 show VCc67 (VCc67_it 0) (a:Int) (b:Int) l kn K
 unfold VCc67
 simp only [Int.toNat_natCast]
 have ia:inIdx (a:Int) l.length:=⟨by omega,by omega⟩
 have ib:inIdx (b:Int) l.length:=⟨by omega,by omega⟩
 have same:a=b→K ((a:Int),l,kn):=fun e=>by
  subst e
  exact h _ l kn hP (Ext.refl l 1) ⟨a,rfl,ha,fun w=>⟨fun hw=>.inl ((hA w).1 hw),fun hw=>hw.elim (hA w).2 (hB w).2⟩⟩
 have hbno:(nd l b).1=1→K ((a:Int),l,kn):=fun e =>
  h _ l kn hP (Ext.refl l 1) ⟨a,rfl,ha,fun w=>⟨fun hw=>.inl ((hA w).1 hw),fun hw=>hw.elim (hA w).2 fun hw=>absurd ((hB w).2 hw) (lg_no hP.ok hb e w)⟩⟩
 have hano:(nd l a).1=1→K ((b:Int),l,kn):=fun e =>
  h _ l kn hP (Ext.refl l 1) ⟨b,rfl,hb,fun w=>⟨fun hw=>.inr ((hB w).1 hw),fun hw=>hw.elim (fun hw=>absurd ((hA w).2 hw) (lg_no hP.ok ha e w)) (hB w).2⟩⟩
 have last:VCc67_k1 (a:Int) (b:Int) l kn K:=by
  unfold VCc67_k1
  refine add_of hP hl (.inr (.inr (.inr (.inl ⟨.inr rfl,⟨by simp only;omega,by simp only;omega⟩,⟨by simp only;omega,by simp only;omega⟩⟩)))) fun t l' kn' hP' he ht hn=>?_
  refine h _ l' kn' hP' he ⟨t,rfl,ht,fun w=>?_⟩
  obtain ⟨e,rfl,_⟩:=he
  rw [tr_al hP'.ok ht (by rw [hn]),hn]
  simp only [Int.toNat_natCast]
  rw [tr_app hP.ok ha,tr_app hP.ok hb,←hA w,←hB w]
  exact Iff.rfl
 refine ⟨fun hne=>⟨ib,fun hc=>?_,fun _=>⟨ia,fun hc=>?_,fun _=>last⟩⟩,fun he=>⟨fun hc=>?_,fun hc=>?_⟩⟩
 ·simp only [Bool.or_eq_true,decide_eq_true_eq] at hc
  rcases hc with hc | hc
  ·exact same (by omega)
  ·exact hbno hc
 ·simp only [decide_eq_true_eq] at hc
  exact hano hc
 ·exact same (by simp only [Bool.not_eq_false',decide_eq_true_eq] at he;omega)
 ·simp only [Bool.not_eq_false'] at he
  rw [he] at hc
  cases hc
theorem cat_of {k:Int} {l:LN} {kn:Kn} (hP:Pool k l kn) (hl:l.length≤100000) {x y:Int} {A B:List Int→Prop} (hx:Ent l x A) (hy:Ent l y B) {K:Int×LN×Kn→Prop}
  (h:∀ r l' kn',Pool k l' kn'→Ext l l' 1→Ent l' r (fun w=>∃ u v,w=u++v∧A u∧B v)→K (r,l',kn')):VCcr69 x y l kn K:=by
 obtain ⟨a,rfl,ha,hA⟩:=hx
 obtain ⟨b,rfl,hb,hB⟩:=hy
 refine ⟨1,?_⟩
 show VCc69 (VCc69_it 0) (a:Int) (b:Int) l kn K
 unfold VCc69 VCc69_k2 VCc69_k3
 simp only [Int.toNat_natCast]
 have ia:inIdx (a:Int) l.length:=⟨by omega,by omega⟩
 have ib:inIdx (b:Int) l.length:=⟨by omega,by omega⟩
 have k1:(nd l a).1=1∨(nd l b).1=2→K ((a:Int),l,kn):=fun e=>by
  refine h _ l kn hP (Ext.refl l 1) ⟨a,rfl,ha,fun w=>?_⟩
  rcases e with e | e
  ·exact ⟨fun hw=>absurd hw (lg_no hP.ok ha e w),fun ⟨u,v,_,h1,_⟩=>absurd ((hA u).2 h1) (lg_no hP.ok ha e u)⟩
  ·refine ⟨fun hw=>⟨w,[],by simp,(hA w).1 hw,(hB []).1 ((lg_ep hP.ok hb e []).2 rfl)⟩,fun ⟨u,v,e1,h1,h2⟩=>?_⟩
   have:=(lg_ep hP.ok hb e v).1 ((hB v).2 h2)
   subst this
   rw [e1,List.append_nil];exact (hA u).2 h1
 have k2:(nd l b).1=1∨(nd l a).1=2→K ((b:Int),l,kn):=fun e=>by
  refine h _ l kn hP (Ext.refl l 1) ⟨b,rfl,hb,fun w=>?_⟩
  rcases e with e | e
  ·exact ⟨fun hw=>absurd hw (lg_no hP.ok hb e w),fun ⟨u,v,_,_,h1⟩=>absurd ((hB v).2 h1) (lg_no hP.ok hb e v)⟩
  ·refine ⟨fun hw=>⟨[],w,rfl,(hA []).1 ((lg_ep hP.ok ha e []).2 rfl),(hB w).1 hw⟩,fun ⟨u,v,e1,h1,h2⟩=>?_⟩
   have:=(lg_ep hP.ok ha e u).1 ((hA u).2 h1)
   subst this
   rw [e1];exact (hB v).2 h2
 have last:VCc69_k1 (a:Int) (b:Int) l kn K:=by
  unfold VCc69_k1
  refine add_of hP hl (.inr (.inr (.inr (.inl ⟨.inl rfl,⟨by simp only;omega,by simp only;omega⟩,⟨by simp only;omega,by simp only;omega⟩⟩)))) fun t l' kn' hP' he ht hn=>?_
  refine h _ l' kn' hP' he ⟨t,rfl,ht,fun w=>?_⟩
  obtain ⟨e,rfl,_⟩:=he
  rw [tr_ca hP'.ok ht (by rw [hn]),hn]
  simp only [Int.toNat_natCast]
  rw [tr_app hP.ok ha,tr_app hP.ok hb]
  constructor
  ·rintro ⟨u,v,e1,h1,h2⟩;exact ⟨u,v,e1,(hA u).1 h1,(hB v).1 h2⟩
  ·rintro ⟨u,v,e1,h1,h2⟩;exact ⟨u,v,e1,(hA u).2 h1,(hB v).2 h2⟩
 have tail:inIdx (b:Int) l.length∧(((!(decide ((l.getD b z3).1=(1:Int))))=true→(inIdx (a:Int) l.length∧((((decide ((l.getD b z3).1=(1:Int)))||(decide ((l.getD a z3).1=(2:Int))))=true→K ((b:Int),l,kn))∧(((decide ((l.getD b z3).1=(1:Int)))||(decide ((l.getD a z3).1=(2:Int))))=false→VCc69_k1 (a:Int) (b:Int) l kn K))))∧((!(decide ((l.getD b z3).1=(1:Int))))=false→((((decide ((l.getD b z3).1=(1:Int)))||false)=true→K ((b:Int),l,kn))∧(((decide ((l.getD b z3).1=(1:Int)))||false)=false→VCc69_k1 (a:Int) (b:Int) l kn K)))):=by
  refine ⟨ib,fun _=>⟨ia,fun hc=>?_,fun _=>last⟩,fun _=>⟨fun hc=>?_,fun _=>last⟩⟩
  ·simp only [Bool.or_eq_true,decide_eq_true_eq] at hc
   exact k2 hc
  ·simp only [Bool.or_false,decide_eq_true_eq] at hc
   exact k2 (.inl hc)
 refine ⟨ia,fun _=>⟨ib,fun hc=>?_,fun _=>tail⟩,fun _=>⟨fun hc=>?_,fun _=>tail⟩⟩
 ·simp only [Bool.or_eq_true,decide_eq_true_eq] at hc
  exact k1 hc
 ·simp only [Bool.or_false,decide_eq_true_eq] at hc
  exact k1 (.inl hc)
theorem star_none {L:List Int→Prop} (h:∀ w,L w→w=[]) {w:List Int} (hs:Star L w):w=[]:=by
 induction hs with
 | nil=>rfl
 | more u v h1 h2 ih=>rw [ih,h v h2];rfl
theorem star_star {L:List Int→Prop} {w:List Int} (hs:Star (Star L) w):Star L w:=by
 induction hs with
 | nil=>exact .nil
 | more u v h1 h2 ih=>exact star_app ih h2
theorem star_iff {L L':List Int→Prop} (h:∀ w,L w↔L' w) (w:List Int):Star L w↔Star L' w:=by
 have:L=L':=funext fun w=>propext (h w)
 rw [this]
theorem star_of {k:Int} {l:LN} {kn:Kn} (hP:Pool k l kn) (hl:l.length≤100000) {x:Int} {A:List Int→Prop} (hx:Ent l x A) {K:Int×LN×Kn→Prop}
  (h:∀ r l' kn',Pool k l' kn'→Ext l l' 1→Ent l' r (Star A)→K (r,l',kn')):VCcr68 x l kn K:=by
 obtain ⟨a,rfl,ha,hA⟩:=hx
 refine ⟨1,?_⟩
 show VCc68 (VCc68_it 0) (a:Int) l kn K
 unfold VCc68
 simp only [Int.toNat_natCast]
 have ia:inIdx (a:Int) l.length:=⟨by omega,by omega⟩
 have k1:(nd l a).1=1∨(nd l a).1=2→VCcr65 (2:Int) (0:Int) (0:Int) l kn (fun (ret16v:Int×LN×Kn)=>K (ret16v.1,ret16v.2.1,ret16v.2.2)):=fun e=>by
  refine ep_of hP hl fun r l' kn' hP' he hr=>h _ l' kn' hP' he (hr.congr fun w=>⟨fun hw=>by rw [hw];exact .nil,fun hw=>star_none (fun v hv=>?_) hw⟩)
  rcases e with e | e
  ·exact absurd ((hA v).2 hv) (lg_no hP.ok ha e v)
  ·exact (lg_ep hP.ok ha e v).1 ((hA v).2 hv)
 have k2:inIdx (a:Int) l.length∧(((decide ((l.getD a z3).1=(6:Int)))=true→K ((a:Int),l,kn))∧((decide ((l.getD a z3).1=(6:Int)))=false→VCc68_k1 (a:Int) l kn K)):=by
  refine ⟨ia,fun hc=>?_,fun _=>?_⟩
  ·simp only [decide_eq_true_eq] at hc
   have hc':(nd l a).1=6:=hc
   refine h _ l kn hP (Ext.refl l 1) ⟨a,rfl,ha,fun w=>?_⟩
   rw [←star_iff hA w]
   constructor
   ·exact star_one
   ·intro hw
    rw [tr_st hP.ok ha hc'] at hw ⊢
    exact star_star hw
  ·unfold VCc68_k1
   refine add_of hP hl (.inr (.inr (.inr (.inr ⟨rfl,by simp only;omega,by simp only;omega⟩)))) fun t l' kn' hP' he ht hn=>?_
   refine h _ l' kn' hP' he ⟨t,rfl,ht,fun w=>?_⟩
   obtain ⟨e,rfl,_⟩:=he
   rw [tr_st hP'.ok ht (by rw [hn]),hn]
   simp only [Int.toNat_natCast]
   rw [tr_app hP.ok ha,←star_iff hA w]
   exact Iff.rfl
 refine ⟨ia,fun _=>⟨ia,fun hc=>?_,fun _=>k2⟩,fun he=>⟨fun hc=>?_,fun hc=>?_⟩⟩
 ·simp only [Bool.or_eq_true,decide_eq_true_eq] at hc
  exact k1 hc
 ·simp only [Bool.or_false,decide_eq_true_eq] at hc
  exact k1 (.inl hc)
 ·simp only [Bool.not_eq_false'] at he
  rw [he] at hc
  cases hc
end Dec
namespace Dec
open Go Go.Proofs
theorem VC94_of {n:Nat} (h1:1≤n) (h7:n≤7) {K:Int×Int→Prop} (h:K (0,(n:Int))):VC94 (IntKind.wrap .u64 (1:Int)) (IntKind.wrap .u64 (n:Int)) K:=by
 have fin:∀ {m:Nat},K (0,(m:Int))→∀ p:Int×Int,p=(0,(m:Int))→K p:=fun hk p hp=>by rw [hp];exact hk
 have hn:n=1∨n=2∨n=3∨n=4∨n=5∨n=6∨n=7:=by omega
 rcases hn with rfl | rfl | rfl | rfl | rfl | rfl | rfl <;>
  (unfold VC94 VC105
   exact ⟨by decide,by decide,by decide,by decide,by decide,fin h _ (by decide)⟩)
theorem copyL_get {L m:List Int} {lo n q:Nat} (h:lo+n≤L.length) (hq:q<lo+min n m.length):(copyL L m lo n).getD q 0=if q<lo then L.getD q 0 else m.getD (q-lo) 0:=by
 unfold copyL
 have h1:(L.take lo).length=lo:=by rw [List.length_take];omega
 have h2:(m.take n).length=min n m.length:=List.length_take
 simp only [List.getD_eq_getElem?_getD]
 by_cases hl:q<lo
 ·rw [if_pos hl,List.append_assoc,List.getElem?_append_left (by omega),List.getElem?_take,if_pos hl]
 ·rw [if_neg hl,List.append_assoc,List.getElem?_append_right (by omega),h1,List.getElem?_append_left (by omega),List.getElem?_take,if_pos (by omega)]
theorem VC66_of {a:Int} {n:Nat} (h1:1≤n) (h7:n≤7) {K:LI→Prop} (h:K (List.replicate n a)):VC66 [a] (n:Int) K:=by
 unfold VC66
 refine ⟨fun hc=>by simp only [decide_eq_true_eq] at hc;omega,fun _=>?_⟩
 refine VC94_of h1 h7 ⟨fun hc=>?_,fun _=>?_⟩
 ·simp only [Bool.or_eq_true,decide_eq_true_eq] at hc
  omega
 have ew:IntKind.wrap .i64 (n:Int)=(n:Int):=by
  have hn:n=1∨n=2∨n=3∨n=4∨n=5∨n=6∨n=7:=by omega
  rcases hn with rfl | rfl | rfl | rfl | rfl | rfl | rfl <;> decide
 simp only [ew,Int.toNat_natCast,List.length_replicate,List.length_singleton]
 refine ⟨⟨by omega,by omega⟩,⟨by omega,by omega⟩,?_⟩
 have e1:min n 1=1:=by omega
 rw [e1]
 refine Loop.by (fun x:Int×LI=>∃ j:Nat,x.1=(j:Int)∧1≤j∧j≤n∧x.2.length=n∧∀ q,q<j→x.2.getD q 0=a) (fun x=>((n:Int)-x.1).toNat) ⟨1,rfl,by omega,h1,by simp only;rw [copyL_len (by simp)];simp,fun q hq=>?_⟩ ?_
 ·simp only
  rw [copyL_get (by simp) (by simp;omega),if_neg (by omega)]
  have:q=0:=by omega
  subst this
  rfl
 rintro ⟨c,s⟩ ⟨j,rfl,hj1,hjn,hs,hq⟩ X hX
 simp only at hs hq ⊢
 unfold VC66_l1
 simp only [Int.toNat_natCast]
 refine ⟨fun hb=>?_,fun hb=>?_⟩
 ·simp only [decide_eq_true_eq] at hb
  have et:((s.drop 0).take j).length=j:=by rw [List.drop_zero,List.length_take];omega
  have hlen:j+(s.length-j)≤s.length:=by omega
  refine ⟨⟨by omega,by omega⟩,⟨by omega,by omega⟩,⟨by omega,by omega⟩,⟨by omega,by omega⟩,hX _ ⟨j+min (s.length-j) ((s.drop 0).take j).length,by simp,by omega,by omega,by simp only;rw [copyL_len hlen];exact hs,fun q hq2=>?_⟩ (by simp only;omega)⟩
  simp only
  rw [copyL_get hlen hq2]
  split
  ·exact hq q (by omega)
  ·rw [List.drop_zero,List.getD_eq_getElem?_getD,List.getElem?_take,if_pos (by omega),←List.getD_eq_getElem?_getD]
   exact hq _ (by omega)
 ·simp only [decide_eq_false_iff_not] at hb
  have hjn2:j=n:=by omega
  subst hjn2
  unfold VC66_k1
  have:s=List.replicate j a:=ext_getD (0:Int) (by rw [hs];simp) fun q hq2=>by
   rw [hq q (by omega),getD_lt _ (by simp;omega)];simp
  rw [this];exact h
end Dec
namespace Dec
open Go Go.Proofs Rex Gly
abbrev AutoT:=LI×(LL×LI)
structure Aut (l:List Nd) (k:Int) (A:AutoT):Prop where
 len:A.1.length=A.2.1.length
 few:1≤A.1.length∧A.1.length≤320
 ok:∀ q,q<A.2.1.length→SetOk (A.2.1.getD q D5)
 lok:SetOk A.2.2
 sgn:∀ q,1≤q→q<A.1.length→0≤A.1.getD q 0∧A.1.getD q 0<k
 fol:∀ q,q<A.1.length→∀ r,Fol A.2.1 q r→1≤r∧r<A.1.length
 lst:∀ q,mem A.2.2 q=true→q<A.1.length
 acc:∀ w:List Int,((w=[]∧mem A.2.2 0=true)∨∃ q r,Fol A.2.1 0 q∧Ch (Fol A.2.1) (fun q=>A.1.getD q 0) w q 0 w.length r∧mem A.2.2 r=true)↔Mat l w (l.length-1) 0 w.length
 cnt:A.1.length=1+Rex.cnt (rt l)
 rch:∀ (w:List Int) p,1≤p→p<A.1.length→((∃ q,Fol A.2.1 0 q∧Ch (Fol A.2.1) (fun q=>A.1.getD q 0) w q 0 w.length p)↔Rc (rt l) (p-1) w)
theorem VC60_of {k:Int} {l:List Nd} (hg:Good k l) {K:AutoT→Prop} (h:∀ A,Aut l k A→K A):VC60 l K:=by
 have hm:=hg.len
 unfold VC60
 refine VC49_of hg fun E NN hE hEm=>⟨⟨by omega,by omega⟩,l.length,?_⟩
 have hp:2 ^ (l.length-1)≤2 ^ 8:=Nat.pow_le_pow_right (by omega) (by omega)
 have hS0:SInv ([-1]:LI) [emptyS]:=⟨rfl,fun q hq=>by
  simp only [List.length_singleton] at hq
  have:q=0:=by omega
  subst this
  exact empty_ok⟩
 refine build_of hg hE hEm 0 0 0 0 0 l.length (l.length-1) _ [-1] [emptyS] (by omega) (by omega) (by omega) hS0 (by simp only [List.length_singleton];omega) fun fi la sy fo b=>?_
 have hfl:=b.inv.len
 have hm1:=b.more
 have hf1:=b.few
 simp only [List.length_singleton] at hm1 hf1
 have e1:=five b.fiok.len
 have e2:=five b.laok.len
 have hrt:l.length-1<l.length:=by omega
 have main:∀ la',SetOk la'→(∀ q,mem la' q=true↔mem la q=true∨(q=0∧E.getD (l.length-1) false=true))→K (sy,(fo.set 0 fi,la')):=by
  intro la' hla' hlm
  have hget:∀ q,(fo.set 0 fi).getD q D5=if 0=q then fi else fo.getD q D5:=fun q=>getD_setL (by omega)
  have hfr:=b.frag
  have hla0:mem la 0=false:=by
   cases hx:mem la 0 with
   | false=>rfl
   | true=>have:=((hfr []).lan 0 hx).1;simp at this
  have hF0:∀ r,Fol (fo.set 0 fi) 0 r↔mem fi r=true:=fun r=>by unfold Fol;rw [hget,if_pos rfl]
  have hFq:∀ q r,1≤q→(Fol (fo.set 0 fi) q r↔Fol fo q r):=fun q r hq=>by unfold Fol;rw [hget,if_neg (by omega)]
  refine h _ ⟨by simp only [List.length_set];exact hfl,⟨by simp only;omega,by simp only;omega⟩,fun q hq=>?_,hla',fun q hq1 hq2=>b.sgn q (by simpa using hq1) hq2,fun q hq r hr=>?_,fun q hq=>?_,fun w=>?_,b.cnt,fun w p hp1 hp2=>?_⟩
  ·simp only [List.length_set] at hq
   simp only
   rw [hget]
   split
   ·exact b.fiok
   ·exact b.inv.ok q hq
  ·simp only at hq hr ⊢
   by_cases hq0:q=0
   ·subst hq0
    have:=(hfr []).fin r ((hF0 r).1 hr)
    simpa using this
   ·have:=(hfr []).fol q (by simp only [List.length_singleton];omega) hq r ((hFq q r (by omega)).1 hr)
    simpa using this
  ·simp only at hq ⊢
   rcases (hlm q).1 hq with hq | ⟨rfl,_⟩
   ·exact ((hfr []).lan q hq).2
   ·omega
  ·simp only
   have hfw:Frag (Fol (fo.set 0 fi)) (fun q=>sy.getD q 0) w 1 sy.length (fun q=>mem fi q=true) (fun q=>mem la q=true) (Mat l w (l.length-1)) :=
    (hfr w).congr (fun q r hq1 hq2=>(hFq q r (by simpa using hq1)).symm) (fun _ _ _=>rfl)
   have hla0':∀ r,1≤r→(mem la' r=true↔mem la r=true):=fun r hr=>by
    rw [hlm]
    constructor
    ·rintro (h | ⟨h,_⟩)
     ·exact h
     ·omega
    ·exact fun h=>.inl h
   cases w with
   | nil =>
    have h0:mem la' 0=true↔E.getD (l.length-1) false=true:=by
     rw [hlm,hla0]
     simp
    constructor
    ·rintro (⟨_,hh⟩ | ⟨q,r,_,hc,_⟩)
     ·exact (hEm _ hrt []).1 (h0.1 hh)
     ·have:=hc.lt;simp at this
    ·intro hh
     exact .inl ⟨rfl,h0.2 ((hEm _ hrt []).2 hh)⟩
   | cons s v =>
    rw [←hfw.acc 0 (s::v).length (by simp)]
    constructor
    ·rintro (⟨hh,_⟩ | ⟨q,r,k1,k2,k3⟩)
     ·simp at hh
     ·have k1':=(hF0 q).1 k1
      have hq:=hfw.fin q k1'
      have hr:=hfw.inside k2 hq
      exact ⟨q,r,k1',k2,(hla0' r hr.1).1 k3⟩
    ·rintro ⟨q,r,k1,k2,k3⟩
     have hr:=hfw.lan r k3
     exact .inr ⟨q,r,(hF0 q).2 k1,k2,(hla0' r hr.1).2 k3⟩
  ·simp only at hp1 hp2 ⊢
   have hcn:sy.length=1+cnt (rt l):=b.cnt
   have hps:Pos (Fol (fo.set 0 fi)) (fun q=>sy.getD q 0) w 1 (fun q=>mem fi q=true) (rt l) :=
    pos_congr (N1:=sy.length) (fun q hq=>by simpa using (hfr w).fin q hq) (fun q hq1 hq2 r hr=>by simpa using (hfr w).fol q (by simpa using hq1) hq2 r hr) (b.pos w) (fun q r hq1 hq2=>(hFq q r hq1).symm) (fun _ _ _=>rfl) (fun _=>Iff.rfl)
   cases w with
   | nil =>
    constructor
    ·rintro ⟨q,_,hc⟩
     have:=hc.lt
     simp at this
    ·exact fun h=>(rc_ne h).elim
   | cons s v =>
    have:=hps (p-1) 0 (s::v).length (by omega) (by simp) (Nat.le_refl _)
    rw [seg_all,show 1+(p-1)=p by omega] at this
    rw [←this]
    constructor
    ·rintro ⟨q,k1,k2⟩;exact ⟨q,(hF0 q).1 k1,k2⟩
    ·rintro ⟨q,k1,k2⟩;exact ⟨q,(hF0 q).2 k1,k2⟩
 simp only [a5,e1,e2,show ((0:Int)).toNat=0 from rfl]
 refine ⟨⟨by omega,by omega⟩,fun he=>?_,fun he=>?_⟩
 ·refine VC88_of (p:=0) b.laok (by omega) fun r hr hmr=>?_
  unfold VC60_k1
  simp only [a5,five hr.len]
  simp only [a5,e1,show ((0:Int)).toNat=0 from rfl]
  refine main r hr fun q=>?_
  rw [hmr,Bool.or_eq_true,decide_eq_true_eq]
  constructor
  ·rintro (hh | hh)
   ·exact .inl hh
   ·exact .inr ⟨hh.symm,he⟩
  ·rintro (hh | hh)
   ·exact .inl hh
   ·exact .inr hh.1.symm
 ·unfold VC60_k1
  simp only [a5,e1,e2,show ((0:Int)).toNat=0 from rfl]
  refine main la b.laok fun q=>?_
  constructor
  ·exact fun hh=>.inl hh
  ·rintro (hh | hh)
   ·exact hh
   ·rw [he] at hh;cases hh.2
end Dec
