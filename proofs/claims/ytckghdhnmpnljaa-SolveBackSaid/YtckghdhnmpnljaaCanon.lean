/-
Machines: plain contracts of the checks, and of Run. Plain facts of machines: what parts two states is short. The least machine in plain Lean. The least machine in plain Lean: how it is built, and that it takes the same words. The least machine in plain Lean: it is one, and takes the same words. Least machines: places are the same if what is there is; machines are compared. Machines whose states are numbered as they are found and are all different are their own least machines.
-/
import Derived.Test.YtckghdhnmpnljaaSentA
import Derived.Test.YtckghdhnmpnljaaGlyA
set_option linter.unusedSimpArgs false
set_option linter.unusedVariables false
namespace Dec
open Go Go.Proofs
abbrev Mach:=Int×(Int×((List (List Int))×(Int×Int)))
abbrev MachT:Ty:=.pr (.int .i64) (.pr (.int .i64) (.pr (.sl (.sl (.int .i64))) (.pr (.int .i64) (.int .u32))))
def mA (m:Mach):Prop:=1≤m.1∧m.1≤7∧1≤m.2.1∧m.2.1≤3
def mB (m:Mach):Prop:=(m.2.2.1.length:Int)=m.1∧∀ l∈m.2.2.1,(l.length:Int)=m.2.1
def mC (m:Mach):Prop:=∀ l∈m.2.2.1,∀ n∈l,0≤n∧n<m.1
def mD (m:Mach):Prop:=0≤m.2.2.2.1∧m.2.2.2.1<m.1
def mE (m:Mach):Prop:=m.2.2.2.2<((2 ^ m.1.toNat:Nat):Int)
open Classical in
noncomputable def chkM (m:Mach):Int:=if ¬mA m then 1 else if ¬mB m then 3 else if ¬mC m then 2 else if ¬mD m then 2 else if ¬mE m then 4 else 0
def GoodM (m:Mach):Prop:=mA m∧mB m∧mC m∧mD m∧mE m
theorem chkM_zero (m:Mach):chkM m=0↔GoodM m:=by
 unfold chkM GoodM
 by_cases a:mA m <;> by_cases b:mB m <;> by_cases c:mC m <;> by_cases d:mD m <;> by_cases e:mE m <;> simp [a,b,c,d,e]
theorem VC82_of {n low high:Int} {K:Bool→Prop} (h:K (decide (low≤n)&&decide (n≤high))):VC82 n low high K:=h
theorem VC77_of {s:List (List Int)} {F:List Int→(Bool→Prop)→Prop} {K:Bool→Prop} (f:List Int→Bool) (hl:s.length≤4611686018427387904) (hF:∀ x∈s,∀ K':Bool→Prop,K' (f x)→F x K') (h:K (s.any f)):VC77 s F K :=
 VCany_of (d:=([]:List Int)) f hl hF h
theorem ok_mach {m:Mach} (h:Ok MachT m):U32 m.2.2.2.2:=u32_of_ok h.2.2.2.2
theorem VC43_of {m:Mach} (hm:Ok MachT m) {K:Int→Prop} (h:K (chkM m)):VC43 m K:=by
 have hu:=ok_mach hm
 obtain ⟨o1,o2,⟨o3,o4⟩,o5,o6⟩:=hm
 unfold VC43
 refine VC82_of ?_
 refine gcall_of (decide (1≤m.2.1)&&decide (m.2.1≤3)) (fun _ hk=>VC82_of hk) ?_
 by_cases a:mA m
 ·have a':=a
  obtain ⟨a1,a2,a3,a4⟩:=a'
  have e:(decide (1≤m.1)&&decide (m.1≤7))=true:=by simp [a1,a2]
  have e2:(decide (1≤m.2.1)&&decide (m.2.1≤3))=true:=by simp [a3,a4]
  simp only [e,e2,Bool.not_true,Bool.not_false,if_true,Bool.or_self]
  refine ⟨fun e=>(by cases e),fun _=>?_⟩
  by_cases hlen:(m.2.2.1.length:Int)=m.1
  ·refine gcall_of (m.2.2.1.any (fun l=>!decide ((l.length:Int)=m.2.1))) (fun hg hk=>VC77_of _ (by omega) (fun x _ K' hK'=>hK') hk) ?_
   simp only [hlen,decide_true,Bool.not_true,Bool.false_or,Bool.not_false,if_true]
   by_cases b:∀ l∈m.2.2.1,(l.length:Int)=m.2.1
   ·have hb:m.2.2.1.any (fun l=>!decide ((l.length:Int)=m.2.1))=false:=by
     rw [List.any_eq_false]
     intro l hl
     simp [b l hl]
    rw [hb]
    refine ⟨fun e=>(by cases e),fun _=>?_⟩
    have hB:mB m:=⟨hlen,b⟩
    refine loop_count m.2.2.1.length (fun i=>∀ j,j<i→∀ n∈m.2.2.1.getD j [],0≤n∧n<m.1) (by simp) ?_
    intro i hi hP X hX
    unfold VC43_l1
    refine ⟨fun hb=>?_,fun hb=>?_⟩
    ·simp only [decide_eq_true_eq] at hb
     have hil:i<m.2.2.1.length:=by omega
     refine ⟨⟨by omega,by omega⟩,?_⟩
     have hrow:=b _ (getD_mem (d:=([]:List Int)) hil)
     refine loop_count (m.2.2.1.getD i []).length (fun j=>∀ k,k<j→0≤(m.2.2.1.getD i []).getD k 0∧(m.2.2.1.getD i []).getD k 0<m.1) (by simp) ?_
     intro j hj hQ Y hY
     unfold VC43_l2
     simp only [Int.toNat_natCast]
     refine ⟨fun hc=>?_,fun hc=>?_⟩
     ·simp only [decide_eq_true_eq] at hc
      have hjl:j<(m.2.2.1.getD i []).length:=by omega
      refine ⟨⟨by omega,by omega⟩,⟨by omega,by omega⟩,?_⟩
      refine VC82_of ?_
      refine ⟨fun hbad=>?_,fun hgood=>?_⟩
      ·have hc2:chkM m=2:=by
        unfold chkM
        rw [if_neg (by simpa using a),if_neg (by simpa using hB),if_pos]
        intro hC
        have:=hC _ (getD_mem (d:=([]:List Int)) hil) _ (getD_mem (d:=(0:Int)) hjl)
        simp [-List.getD_eq_getElem?_getD] at hbad
        omega
       rw [hc2] at h
       exact h
      ·refine ⟨⟨by omega,by omega⟩,hY hjl ?_⟩
       intro k hk
       by_cases hkj:k<j
       ·exact hQ k hkj
       ·have:k=j:=by omega
        subst this
        simp [-List.getD_eq_getElem?_getD] at hgood
        omega
     ·simp only [decide_eq_false_iff_not] at hc
      unfold VC43_k2
      refine ⟨⟨by omega,by omega⟩,hX hil ?_⟩
      intro j' hj' n hn
      by_cases hji:j'<i
      ·exact hP j' hji n hn
      ·have:j'=i:=by omega
       subst this
       obtain ⟨k,hk,rfl⟩:=List.mem_iff_getElem.1 hn
       have:=hQ k (by omega)
       rw [getD_lt 0 hk] at this
       exact this
    ·simp only [decide_eq_false_iff_not] at hb
     have hC:mC m:=by
      intro l hl n hn
      obtain ⟨j,hj,rfl⟩:=List.mem_iff_getElem.1 hl
      have:=hP j (by omega) n
      rw [getD_lt [] hj] at this
      exact this hn
     unfold VC43_k1
     refine ⟨⟨by omega,by omega⟩,?_⟩
     refine VC82_of ⟨fun hd=>?_,fun hd=>?_⟩
     ·have hc2:chkM m=2:=by
       unfold chkM
       rw [if_neg (by simpa using a),if_neg (by simpa using hB),if_neg (by simpa using hC),if_pos]
       intro hD
       obtain ⟨d1,d2⟩:=hD
       simp at hd
       omega
      rw [hc2] at h
      exact h
     ·have hD:mD m:=by simp at hd;exact ⟨by omega,by omega⟩
      refine ⟨⟨hu.1,by omega⟩,?_⟩
      obtain ⟨k,hk⟩:∃ k:Nat,m.1=(k:Int):=⟨m.1.toNat,by omega⟩
      have hE:bShr .u32 m.2.2.2.2 m.1=0↔mE m:=by
       unfold mE
       rw [hk]
       exact shr_zero hu
      refine ⟨fun he=>?_,fun he=>?_⟩
      ·have hc2:chkM m=4:=by
        unfold chkM
        rw [if_neg (by simpa using a),if_neg (by simpa using hB),if_neg (by simpa using hC),if_neg (by simpa using hD),if_pos]
        intro hE'
        simp only [Bool.not_eq_true',decide_eq_false_iff_not] at he
        exact he (hE.2 hE')
       rw [hc2] at h
       exact h
      ·have hc2:chkM m=0:=(chkM_zero m).2 ⟨a,hB,hC,hD,hE.1 (by simpa using he)⟩
       rw [hc2] at h
       exact h
   ·have hb:m.2.2.1.any (fun l=>!decide ((l.length:Int)=m.2.1))=true:=by
     rw [List.any_eq_true]
     simp only [Classical.not_forall] at b
     obtain ⟨l,hl,hb⟩:=b
     exact ⟨l,hl,by simp [hb]⟩
    have hc:chkM m=3:=by
     unfold chkM
     rw [if_neg (by simpa using a),if_pos (fun hB=>b hB.2)]
    rw [hc] at h
    rw [hb]
    exact ⟨fun _=>h,fun e=>by cases e⟩
  ·have hc:chkM m=3:=by
    unfold chkM
    rw [if_neg (by simpa using a),if_pos (fun hB=>hlen hB.1)]
   rw [hc] at h
   simp only [hlen,decide_false,Bool.not_false,Bool.not_true,gcall,Bool.true_or]
   exact ⟨fun _=>h,fun e=>by cases e⟩
 ·have hc:chkM m=1:=by unfold chkM;rw [if_pos a]
  rw [hc] at h
  refine ⟨fun _=>h,fun e=>?_⟩
  exfalso
  apply a
  by_cases c1:(decide (1≤m.1)&&decide (m.1≤7))=true
  ·rw [c1] at e
   simp at e c1
   exact ⟨c1.1,c1.2,e.1,e.2⟩
  ·rw [Bool.not_eq_true] at c1
   rw [c1] at e
   simp at e
def nextM (m:Mach) (q s:Int):Int:=(m.2.2.1.getD q.toNat []).getD s.toNat 0
def runM (m:Mach) (q:Int) (w:List Int):Int:=w.foldl (nextM m) q
theorem runM_append (m:Mach) (q:Int) (u v:List Int):runM m q (u++v)=runM m (runM m q u) v:=by simp [runM]
theorem next_good {m:Mach} (g:GoodM m) {q s:Int} (hq:0≤q∧q<m.1) (hs:0≤s∧s<m.2.1):0≤nextM m q s∧nextM m q s<m.1:=by
 obtain ⟨a,b,c,d,e⟩:=g
 have h1:q.toNat<m.2.2.1.length:=by have:=b.1;omega
 have hrow:=b.2 _ (getD_mem (d:=([]:List Int)) h1)
 exact c _ (getD_mem h1) _ (getD_mem (by omega))
theorem run_good {m:Mach} (g:GoodM m):∀ {w:List Int} {q:Int},0≤q∧q<m.1→(∀ s∈w,0≤s∧s<m.2.1)→0≤runM m q w∧runM m q w<m.1
 | [],q,hq,_=>hq
 | s::w,q,hq,hw=>run_good g (w:=w) (next_good g hq (hw s (by simp))) (fun x hx=>hw x (by simp [hx]))
theorem loop_inv {τ:Type} {B:Int×τ→(Int×τ→Prop)→Prop} (n:Nat) (I:Nat→τ→Prop) {s0:τ} (h0:I 0 s0)
  (h:∀ i:Nat,i≤n→∀ s,I i s→∀ X:Int×τ→Prop,(∀ s',i<n→I (i+1) s'→X ((i:Int)+1,s'))→B ((i:Int),s) X):Loop B (0,s0):=by
 refine Loop.by (fun s=>∃ i:Nat,i≤n∧I i s.2∧s.1=(i:Int)) (fun s=>((n:Int)-s.1).toNat) ⟨0,by omega,h0,rfl⟩ ?_
 rintro ⟨c,s⟩ ⟨i,hi,hP,rfl⟩ X hX
 exact h i hi s hP X fun s' hlt hP'=>hX _ ⟨i+1,by omega,hP',by simp⟩ (by simp only;omega)
end Dec
namespace Dec
open Go Go.Proofs
def SymW (k:Int) (w:List Int):Prop:=∀ s∈w,0≤s∧s<k
def accM (m:Mach) (q:Int) (w:List Int):Bool:=bt m.2.2.2.2 (runM m q w).toNat
end Dec
namespace Dec
open Go Go.Proofs
def EqM (m:Mach) (x y:Int):Prop:=∀ w,SymW m.2.1 w→accM m x w=accM m y w
theorem EqM.rfl' (m:Mach) (x:Int):EqM m x x:=fun _ _=>rfl
theorem EqM.symm {m:Mach} {x y:Int} (h:EqM m x y):EqM m y x:=fun w hw=>(h w hw).symm
theorem EqM.trans {m:Mach} {x y z:Int} (h:EqM m x y) (h':EqM m y z):EqM m x z:=fun w hw=>(h w hw).trans (h' w hw)
theorem EqM.next {m:Mach} {x y:Int} (h:EqM m x y) {s:Int} (hs:0≤s∧s<m.2.1):EqM m (nextM m x s) (nextM m y s):=by
 intro w hw
 have:=h (s::w) (fun z hz=>by
  rw [List.mem_cons] at hz
  rcases hz with rfl | hz
  ·exact hs
  ·exact hw z hz)
 exact this
abbrev Pmap:=List ((Int×Int)×Int)
def inP (p:Pmap) (i k:Int):Bool:=(mget p (i,k)).isSome
theorem inP_mset (p:Pmap) (i k i' k':Int):inP (mset p (i,k) 1) i' k'=(decide (i'=i∧k'=k)||inP p i' k'):=by
 unfold inP
 rw [mget_mset]
 by_cases h:i'=i∧k'=k
 ·obtain ⟨rfl,rfl⟩:=h
  simp
 ·have:¬(i',k')=(i,k):=by
   intro e
   injection e with e1 e2
   exact h ⟨e1,e2⟩
  rw [if_neg this]
  simp [h]
noncomputable def hP (p:Pmap):Nat:=howMany (fun c=>inP p ((c / 7:Nat):Int) ((c % 7:Nat):Int)=true) 49
theorem hP_le (p:Pmap):hP p≤49:=howMany_le _ _
theorem hP_lt {p:Pmap} {i k:Nat} (hi:i<7) (hk:k<7) (h:inP p (i:Int) (k:Int)=false):hP p<hP (mset p ((i:Int),(k:Int)) 1):=by
 refine howMany_lt 49 (fun c _ hc=>by rw [inP_mset,hc,Bool.or_true]) ⟨i*7+k,by omega,?_,?_⟩
 ·have e1:(i*7+k) / 7=i:=by omega
  have e2:(i*7+k) % 7=k:=by omega
  rw [inP_mset,e1,e2];simp
 ·have e1:(i*7+k) / 7=i:=by omega
  have e2:(i*7+k) % 7=k:=by omega
  rw [e1,e2,h];simp
def PSound (m:Mach) (p:Pmap):Prop:=∀ i k,inP p i k=true→¬EqM m i k
def PClosed (m:Mach) (p:Pmap) (i k:Int):Prop:=inP p i k=false→bt m.2.2.2.2 i.toNat=bt m.2.2.2.2 k.toNat∧∀ s,0≤s∧s<m.2.1→inP p (nextM m i s) (nextM m k s)=false
theorem closed_eq {m:Mach} (g:GoodM m) {p:Pmap} (h:∀ i k,(0≤i∧i<m.1)→(0≤k∧k<m.1)→PClosed m p i k):∀ (w:List Int) (i k:Int),(0≤i∧i<m.1)→(0≤k∧k<m.1)→SymW m.2.1 w→inP p i k=false→accM m i w=accM m k w
 | [],i,k,hi,hk,_,hn=>(h i k hi hk hn).1
 | s::w,i,k,hi,hk,hw,hn=>by
  have hs:=hw s (by simp)
  exact closed_eq g h w _ _ (next_good g hi hs) (next_good g hk hs) (fun z hz=>hw z (by simp [hz])) ((h i k hi hk hn).2 s hs)
def PExact (m:Mach) (p:Pmap):Prop:=∀ i k,(0≤i∧i<m.1)→(0≤k∧k<m.1)→(inP p i k=true↔¬EqM m i k)
structure PInv (m:Mach) (p0:Pmap) (done:Nat→Nat→Prop) (grown:Bool) (p:Pmap):Prop where
 sound:PSound m p
 still:grown=false→p=p0∧∀ i k:Nat,(i:Int)<m.1→(k:Int)<m.1→done i k→PClosed m p0 (i:Int) (k:Int)
 more:grown=true→hP p0<hP p
theorem VC92_of {m:Mach} (hm:Ok MachT m) (g:GoodM m) {K:Pmap→Prop} (h:∀ p,PExact m p→K p):VC92 m K:=by
 have hu:=ok_mach hm
 obtain ⟨⟨a1,a2,a3,a4⟩,b,c,d,e⟩:=id g
 obtain ⟨N,hN⟩:∃ N:Nat,m.1=(N:Int):=⟨m.1.toNat,by omega⟩
 obtain ⟨Kn,hK⟩:∃ N:Nat,m.2.1=(N:Int):=⟨m.2.1.toNat,by omega⟩
 have hlen:=b.1
 unfold VC92
 refine Loop.by (fun s:Bool×Pmap=>PSound m s.2∧(s.1=false→∀ i k,(0≤i∧i<m.1)→(0≤k∧k<m.1)→PClosed m s.2 i k)) (fun s=>2*(49-hP s.2)+(if s.1 then 1 else 0)) ⟨fun i k hh=>by simp [inP,mget] at hh,fun hh=>(by cases hh)⟩ ?_
 rintro ⟨grown,p0⟩ ⟨hs0,hc0⟩ X hX
 dsimp only at hs0 hc0
 dsimp only
 unfold VC92_l1
 refine ⟨fun hg=>?_,fun hg=>?_⟩
 ·refine Loop.by (fun s:Bool×Int×Pmap=>∃ i:Nat,i≤N∧s.2.1=(i:Int)∧PInv m p0 (fun i' k'=>i'<i) s.1 s.2.2) (fun s=>((N:Int)-s.2.1).toNat) ⟨0,by omega,rfl,hs0,fun _=>⟨rfl,fun i k _ _ hd=>absurd hd (by omega)⟩,fun hh=>(by cases hh)⟩ ?_
  rintro ⟨g1,c1,p1⟩ ⟨i,hi,e1,hI⟩ X1 hX1
  dsimp only at e1 hI
  subst e1
  dsimp only
  unfold VC92_l2
  refine ⟨fun hlt=>?_,fun hge=>?_⟩
  ·simp only [decide_eq_true_eq] at hlt
   refine Loop.by (fun s:Bool×Int×Pmap=>∃ k:Nat,k≤N∧s.2.1=(k:Int)∧PInv m p0 (fun i' k'=>i'<i∨(i'=i∧k'<k)) s.1 s.2.2) (fun s=>((N:Int)-s.2.1).toNat) ⟨0,by omega,rfl,hI.sound,fun hh=>⟨(hI.still hh).1,fun i' k' h1 h2 hd=>(hI.still hh).2 i' k' h1 h2 (by omega)⟩,hI.more⟩ ?_
   rintro ⟨g2,c2,p2⟩ ⟨k,hk,e2,hJ⟩ X2 hX2
   dsimp only at e2 hJ
   subst e2
   dsimp only
   unfold VC92_l3
   refine ⟨fun hlt2=>?_,fun hge2=>?_⟩
   ·simp only [decide_eq_true_eq] at hlt2
    have hi2:(0:Int)≤(i:Int)∧(i:Int)<m.1:=⟨by omega,hlt⟩
    have hk2:(0:Int)≤(k:Int)∧(k:Int)<m.1:=⟨by omega,hlt2⟩
    refine ⟨fun hin=>?_,fun hin=>VC44_of hu hi2.1 (VC44_of hu hk2.1 ?_)⟩
    ·unfold VC92_k4
     refine ⟨⟨by omega,by omega⟩,hX2 _ ⟨k+1,by omega,by simp,hJ.sound,fun hh=>⟨(hJ.still hh).1,fun i' k' h1 h2 hd=>?_⟩,hJ.more⟩ (by simp only;omega)⟩
     by_cases hd2:i'<i∨(i'=i∧k'<k)
     ·exact (hJ.still hh).2 i' k' h1 h2 hd2
     ·have e1:i'=i:=by omega
      have e2:k'=k:=by omega
      subst e1 e2
      intro hf
      rw [←(hJ.still hh).1] at hf
      have:inP p2 (i':Int) (k':Int)=true:=hin
      rw [this] at hf;cases hf
    ·have hin':inP p2 (i:Int) (k:Int)=false:=hin
     refine Loop.by (fun s:Bool×Int=>∃ t:Nat,t≤Kn∧s.2=(t:Int)∧(s.1=true↔(bt m.2.2.2.2 i≠bt m.2.2.2.2 k∨∃ u:Nat,u<t∧inP p2 (nextM m i u) (nextM m k u)=true))) (fun s=>((Kn:Int)-s.2).toNat) ⟨0,by omega,rfl,?_⟩ ?_
     ·simp
     rintro ⟨is,c3⟩ ⟨t,ht,e3,hiff⟩ X3 hX3
     dsimp only at e3 hiff
     subst e3
     dsimp only
     unfold VC92_l4
     have hra:=b.2 _ (getD_mem (d:=([]:List Int)) (i:=i) (l:=m.2.2.1) (by omega))
     have hrb:=b.2 _ (getD_mem (d:=([]:List Int)) (i:=k) (l:=m.2.2.1) (by omega))
     refine ⟨fun hlt3=>?_,fun hge3=>?_⟩
     ·simp only [decide_eq_true_eq] at hlt3
      simp only [Int.toNat_natCast]
      refine ⟨⟨by omega,by omega⟩,⟨by omega,by omega⟩,⟨by omega,by omega⟩,⟨by omega,by omega⟩,⟨by omega,by omega⟩,hX3 _ ⟨t+1,by omega,by simp,?_⟩ (by simp only;omega)⟩
      have ein:(mget p2 ((m.2.2.1.getD i ([]:List Int)).getD t (0:Int),(m.2.2.1.getD k ([]:List Int)).getD t (0:Int))).isSome=inP p2 (nextM m i t) (nextM m k t):=rfl
      simp only [ein,Bool.or_eq_true,hiff]
      constructor
      ·rintro ((h1 | ⟨u,h1,h2⟩) | h1)
       ·exact .inl h1
       ·exact .inr ⟨u,by omega,h2⟩
       ·exact .inr ⟨t,by omega,h1⟩
      ·rintro (h1 | ⟨u,h1,h2⟩)
       ·exact .inl (.inl h1)
       ·by_cases hut:u=t
        ·subst hut;exact .inr h2
        ·exact .inl (.inr ⟨u,by omega,h2⟩)
     ·simp only [decide_eq_false_iff_not] at hge3
      have:t=Kn:=by omega
      subst this
      unfold VC92_k5
      refine ⟨fun his=>?_,fun his=>?_⟩
      ·have hne:¬EqM m (i:Int) (k:Int):=by
        intro heq
        rcases hiff.1 his with h1 | ⟨u,h1,h2⟩
        ·exact h1 (by have:=heq [] (fun z hz=>by cases hz);exact this)
        ·exact hJ.sound _ _ h2 (heq.next ⟨by omega,by omega⟩)
       unfold VC92_k6 VC92_k4
       have hlt7:=hP_lt (p:=p2) (i:=i) (k:=k) (by omega) (by omega) hin'
       refine ⟨⟨by omega,by omega⟩,hX2 _ ⟨k+1,by omega,by simp,fun i' k' hh=>?_,fun hh=>(by cases hh),fun _=>?_⟩ (by simp only;omega)⟩
       ·dsimp only at hh
        rw [inP_mset,Bool.or_eq_true] at hh
        rcases hh with hh | hh
        ·simp only [decide_eq_true_eq] at hh
         rw [hh.1,hh.2];exact hne
        ·exact hJ.sound _ _ hh
       ·dsimp only
        cases hg2:g2 with
        | false=>rw [←(hJ.still hg2).1];exact hlt7
        | true=>have:=hJ.more hg2;omega
      ·unfold VC92_k6 VC92_k4
       refine ⟨⟨by omega,by omega⟩,hX2 _ ⟨k+1,by omega,by simp,hJ.sound,fun hh=>⟨(hJ.still hh).1,fun i' k' h1 h2 hd=>?_⟩,hJ.more⟩ (by simp only;omega)⟩
       by_cases hd2:i'<i∨(i'=i∧k'<k)
       ·exact (hJ.still hh).2 i' k' h1 h2 hd2
       ·have e1:i'=i:=by omega
        have e2:k'=k:=by omega
        subst e1 e2
        intro _
        have hnot:¬(bt m.2.2.2.2 i'≠bt m.2.2.2.2 k'∨∃ u:Nat,u<t∧inP p2 (nextM m i' u) (nextM m k' u)=true):=fun hh2=>by
         have:=hiff.2 hh2
         rw [his] at this;cases this
        refine ⟨?_,fun s hs=>?_⟩
        ·simp only [Int.toNat_natCast]
         exact Classical.byContradiction fun hn=>hnot (.inl hn)
        ·rw [←(hJ.still hh).1]
         obtain ⟨u,rfl⟩:∃ u:Nat,s=(u:Int):=⟨s.toNat,by omega⟩
         cases hx:inP p2 (nextM m i' u) (nextM m k' u) with
         | false=>rfl
         | true=>exact absurd (.inr ⟨u,by omega,hx⟩) hnot
   ·simp only [decide_eq_false_iff_not] at hge2
    unfold VC92_k3
    refine ⟨⟨by omega,by omega⟩,hX1 _ ⟨i+1,by omega,by simp,hJ.sound,fun hh=>⟨(hJ.still hh).1,fun i' k' h1 h2 hd=>(hJ.still hh).2 i' k' h1 h2 (by omega)⟩,hJ.more⟩ (by simp only;omega)⟩
  ·simp only [decide_eq_false_iff_not] at hge
   unfold VC92_k2
   refine hX _ ⟨hI.sound,fun hh i' k' h1 h2=>?_⟩ ?_
   ·dsimp only at hh ⊢
    obtain ⟨u,rfl⟩:∃ u:Nat,i'=(u:Int):=⟨i'.toNat,by omega⟩
    obtain ⟨v,rfl⟩:∃ u:Nat,k'=(u:Int):=⟨k'.toNat,by omega⟩
    have:=(hI.still hh).2 u v h1.2 h2.2 (by omega)
    rw [(hI.still hh).1]
    exact this
   ·dsimp only
    rw [hg]
    have h1:=hP_le p0
    have h2:=hP_le p1
    cases hg1:g1 with
    | false=>rw [(hI.still hg1).1];simp
    | true=>have:=hI.more hg1;simp;omega
 ·unfold VC92_k1
  refine h p0 fun i k hi hk=>⟨hs0 i k,fun hne=>?_⟩
  cases hx:inP p0 i k with
  | true=>rfl
  | false=>exact absurd (fun w hw=>closed_eq g (hc0 hg) w i k hi hk hw hx) hne
theorem exists_least {P:Nat→Prop} : ∀ n,P n→∃ k,k≤n∧P k∧∀ j,j<k→¬P j:=by
 intro n
 induction n using Nat.strongRecOn with
 | _ n ih =>
  intro hn
  by_cases h:∃ j,j<n∧P j
  ·obtain ⟨j,hj,hp⟩:=h
   obtain ⟨k,h1,h2,h3⟩:=ih j hj hp
   exact ⟨k,by omega,h2,h3⟩
  ·exact ⟨n,Nat.le_refl _,hn,fun j hj hp=>h ⟨j,hj,hp⟩⟩
noncomputable def clI (m:Mach) (i:Nat):Nat:=Classical.choose (exists_least (P:=fun k=>EqM m (i:Int) (k:Int)) i (EqM.rfl' m _))
theorem clI_spec (m:Mach) (i:Nat):clI m i≤i∧EqM m (i:Int) (clI m i:Int)∧∀ j,j<clI m i→¬EqM m (i:Int) (j:Int) :=
 Classical.choose_spec (exists_least (P:=fun k=>EqM m (i:Int) (k:Int)) i (EqM.rfl' m _))
noncomputable def clM (m:Mach):List Int:=(List.range m.1.toNat).map fun (i:Nat)=>(clI m i:Int)
theorem clM_len (m:Mach):(clM m).length=m.1.toNat:=by simp [clM]
theorem clM_get {m:Mach} {x:Int} (hx:0≤x∧x<m.1):(clM m).getD x.toNat 0=(clI m x.toNat:Int):=by
 rw [clM,getD_lt _ (by simp;omega)];simp
theorem VC57_of {m:Mach} (hm:Ok MachT m) (g:GoodM m) {K:List Int→Prop} (h:K (clM m)):VC57 m K:=by
 obtain ⟨⟨a1,a2,a3,a4⟩,b,c,d,e⟩:=id g
 obtain ⟨N,hN⟩:∃ N:Nat,m.1=(N:Int):=⟨m.1.toNat,by omega⟩
 have hNn:m.1.toNat=N:=by omega
 unfold VC57
 refine VC92_of hm g fun p hp=>⟨⟨by omega,by omega⟩,?_⟩
 refine loop_inv N (fun v out=>out.length=N∧∀ u,u<v→out.getD u 0=(clI m u:Int)) ⟨by simp [hNn],fun u hu=>absurd hu (by omega)⟩ ?_
 rintro v hv out ⟨hl,ho⟩ X hX
 try dsimp only
 unfold VC57_l1
 simp only [List.length_replicate,hNn]
 refine ⟨fun hlt=>?_,fun hge=>?_⟩
 ·simp only [decide_eq_true_eq] at hlt
  have hvN:v<N:=by omega
  obtain ⟨k1,k2,k3⟩:=clI_spec m v
  refine loop_count N (fun k=>k≤clI m v) (Nat.zero_le _) ?_
  intro k hk hkc X2 hX2
  unfold VC57_l2
  refine ⟨fun hlt2=>?_,fun hge2=>?_⟩
  ·simp only [decide_eq_true_eq] at hlt2
   have hex:=hp (v:Int) (k:Int) ⟨by omega,by omega⟩ ⟨by omega,by omega⟩
   refine ⟨fun hno=>⟨⟨by omega,by omega⟩,?_⟩,fun hyes=>⟨⟨by omega,by omega⟩,hX2 (by omega) ?_⟩⟩
   ·have hf:inP p (v:Int) (k:Int)=false:=by
     have:(!(inP p (v:Int) (k:Int)))=true:=hno
     simpa using this
    have heq:EqM m (v:Int) (k:Int):=Classical.byContradiction fun hn=>by
     rw [hex.2 hn] at hf;cases hf
    have:k=clI m v:=by
     refine Classical.byContradiction fun hn=>k3 k (by omega) heq
    unfold VC57_k2
    simp only [Int.toNat_natCast]
    refine ⟨⟨by omega,by omega⟩,hX _ hvN ⟨by simpa using hl,fun u hu=>?_⟩⟩
    by_cases huv:u=v
    ·subst huv
     rw [getD_lt _ (by simp;omega),List.getElem_set_self,this]
    ·rw [getD_lt _ (by simp;omega),List.getElem_set_ne (by omega)]
     have:=ho u (by omega)
     rwa [getD_lt _ (by omega)] at this
   ·have ht:inP p (v:Int) (k:Int)=true:=by
     have:(!(inP p (v:Int) (k:Int)))=false:=hyes
     simpa using this
    have hne:=hex.1 ht
    have:k≠clI m v:=by
     intro e
     rw [e] at hne
     exact hne k2
    omega
  ·simp only [decide_eq_false_iff_not] at hge2
   omega
 ·simp only [decide_eq_false_iff_not] at hge
  have:v=N:=by omega
  subst this
  have:out=clM m:=by
   refine ext_getD 0 (by rw [clM_len,hl,hNn]) fun u hu=>?_
   rw [ho u (by omega)]
   have:=clM_get (m:=m) (x:=(u:Int)) ⟨by omega,by omega⟩
   simpa using this.symm
  subst this
  unfold VC57_k1
  exact h
end Dec
namespace Dec
open Go Go.Proofs
theorem VC58_of {s:List Int} {v:Int} (hl:s.length≤4611686018427387904) {K:Int→Prop} (h:K (idxOf (fun y=>decide (v=y)) s)):VC58 s v K:=by
 have:=VCidx_of (d:=(0:Int)) (s:=s) (F:=fun y K'=>K' (decide (v=y))) (K:=K) (fun y=>decide (v=y)) hl (fun x _ K' h=>h) h
 exact this
def rowStep (m:Mach) (cl:List Int) (x:Int):Nat→List Int→List Int×List Int
 | 0,found=>(found,[])
 | s+1,found =>
  let r:=rowStep m cl x s found
  let c:=cl.getD (nextM m x (s:Int)).toNat 0
  let n:=idxOf (fun y=>decide (c=y)) r.1
  if n<0 then (r.1++[c],r.2++[(r.1.length:Int)]) else (r.1,r.2++[n])
theorem rowStep_len (m:Mach) (cl:List Int) (x:Int):∀ s found,(rowStep m cl x s found).2.length=s
 | 0,found=>rfl
 | s+1,found=>by
  have:=rowStep_len m cl x s found
  unfold rowStep
  dsimp only
  split <;> simp [this]
theorem rowStep_pre (m:Mach) (cl:List Int) (x:Int):∀ s found,∃ l,(rowStep m cl x s found).1=found++l
 | 0,found=>⟨[],by simp [rowStep]⟩
 | s+1,found=>by
  obtain ⟨l,hl⟩:=rowStep_pre m cl x s found
  unfold rowStep
  dsimp only
  split
  ·exact ⟨l++[cl.getD (nextM m x (s:Int)).toNat 0],by rw [hl];simp⟩
  ·exact ⟨l,hl⟩
def stepL (m:Mach) (cl:List Int) (i:Nat) (S:Int×List Int×List (List Int)):Int×List Int×List (List Int) :=
 let r:=rowStep m cl (S.2.1.getD i 0) m.2.1.toNat S.2.1
 (if bt m.2.2.2.2 (r.1.getD i 0).toNat then bOr .u32 S.1 (bShl .u32 1 (i:Int)) else S.1,r.1,S.2.2++[r.2])
def stL (m:Mach) (cl:List Int):Nat→Int×List Int×List (List Int)
 | 0=>(0,[cl.getD m.2.2.2.1.toNat 0],[])
 | i+1=>if i<(stL m cl i).2.1.length then stepL m cl i (stL m cl i) else stL m cl i
structure FoundL (m:Mach) (l:List Int):Prop where
 rep:∀ j,j<l.length→(0≤l.getD j 0∧l.getD j 0<m.1)∧clI m (l.getD j 0).toNat=(l.getD j 0).toNat
 dist:∀ j k,j<k→k<l.length→l.getD j 0≠l.getD k 0
theorem FoundL.few {m:Mach} {l:List Int} (h:FoundL m l):l.length≤m.1.toNat:=by
 refine pigeon m.1.toNat l.length (fun j=>(l.getD j 0).toNat) (fun j hj=>?_) fun j k hjk hk e=>?_
 ·have:=(h.rep j hj).1;show (l.getD j 0).toNat<m.1.toNat;omega
 ·have h1:=(h.rep j (by omega)).1
  have h2:=(h.rep k hk).1
  have e':(l.getD j 0).toNat=(l.getD k 0).toNat:=e
  exact h.dist j k hjk hk (by omega)
theorem clI_rep {m:Mach} (x:Nat):clI m (clI m x)=clI m x:=by
 obtain ⟨h1,h2,h3⟩:=clI_spec m x
 obtain ⟨k1,k2,k3⟩:=clI_spec m (clI m x)
 refine Classical.byContradiction fun hn=>?_
 exact h3 (clI m (clI m x)) (by omega) (h2.trans k2)
theorem cl_good {m:Mach} {x:Int} (hx:0≤x∧x<m.1):(0≤(clM m).getD x.toNat 0∧(clM m).getD x.toNat 0<m.1)∧clI m ((clM m).getD x.toNat 0).toNat=((clM m).getD x.toNat 0).toNat∧EqM m x ((clM m).getD x.toNat 0):=by
 rw [clM_get hx]
 obtain ⟨h1,h2,h3⟩:=clI_spec m x.toNat
 refine ⟨⟨by omega,by omega⟩,by rw [Int.toNat_natCast];exact clI_rep _,?_⟩
 have e:((x.toNat:Nat):Int)=x:=by omega
 rw [e] at h2
 exact h2
theorem idxOf_spec (c:Int) (l:List Int):(idxOf (fun y=>decide (c=y)) l<0∧∀ j,j<l.length→l.getD j 0≠c)∨∃ n:Nat,idxOf (fun y=>decide (c=y)) l=(n:Int)∧n<l.length∧l.getD n 0=c:=by
 unfold idxOf
 cases h:l.findIdx? (fun y=>decide (c=y)) with
 | none =>
  left
  rw [List.findIdx?_eq_none_iff] at h
  refine ⟨by simp,fun j hj e=>?_⟩
  have:=h _ (getD_mem (d:=(0:Int)) hj)
  rw [e] at this
  simp at this
 | some i =>
  right
  rw [List.findIdx?_eq_some_iff_getElem] at h
  obtain ⟨hi,hf,_⟩:=h
  refine ⟨i,rfl,hi,?_⟩
  rw [getD_lt _ hi]
  simp at hf
  exact hf.symm
theorem found_snoc {m:Mach} {l:List Int} (h:FoundL m l) {c:Int} (hc:(0≤c∧c<m.1)∧clI m c.toNat=c.toNat) (hno:∀ j,j<l.length→l.getD j 0≠c):FoundL m (l++[c]):=by
 have hold:∀ j,j<l.length→(l++[c]).getD j 0=l.getD j 0:=fun j hj=>by
  rw [getD_lt _ (by simp;omega),getD_lt _ hj,List.getElem_append_left hj]
 have hnew:(l++[c]).getD l.length 0=c:=by rw [getD_lt _ (by simp)];simp
 refine ⟨fun j hj=>?_,fun j k hjk hk=>?_⟩
 ·simp at hj
  by_cases h2:j<l.length
  ·rw [hold j h2];exact h.rep j h2
  ·have:j=l.length:=by omega
   subst this
   rw [hnew];exact hc
 ·simp at hk
  by_cases h2:k<l.length
  ·rw [hold j (by omega),hold k h2];exact h.dist j k hjk h2
  ·have:k=l.length:=by omega
   subst this
   rw [hold j hjk,hnew];exact hno j hjk
structure RowOk (m:Mach) (x:Int) (s:Nat) (r:List Int×List Int):Prop where
 found:FoundL m r.1
 len:r.2.length=s
 at_:∀ u:Nat,u<s→(0≤r.2.getD u 0∧r.2.getD u 0<(r.1.length:Int))∧r.1.getD (r.2.getD u 0).toNat 0=(clM m).getD (nextM m x (u:Int)).toNat 0
theorem rowStep_ok {m:Mach} (g:GoodM m) {x:Int} (hx:0≤x∧x<m.1) {found:List Int} (hf:FoundL m found):∀ s:Nat,(s:Int)≤m.2.1→RowOk m x s (rowStep m (clM m) x s found)
 | 0,_=>⟨hf,rfl,fun u hu=>absurd hu (by omega)⟩
 | s+1,hs=>by
  have ih:=rowStep_ok g hx hf s (by omega)
  have hcl:=cl_good (m:=m) (next_good g hx (s:=(s:Int)) ⟨by omega,by omega⟩)
  unfold rowStep
  dsimp only
  generalize hr:rowStep m (clM m) x s found=r at ih
  generalize hc:(clM m).getD (nextM m x (s:Int)).toNat 0=c at hcl
  rcases idxOf_spec c r.1 with ⟨h1,h2⟩ | ⟨n,h1,h2,h3⟩
  ·rw [if_pos h1]
   refine ⟨found_snoc ih.found ⟨hcl.1,hcl.2.1⟩ h2,by simp [ih.len],fun u hu=>?_⟩
   have e2:(r.2++[(r.1.length:Int)]).getD u 0=if u<s then r.2.getD u 0 else (r.1.length:Int):=by
    by_cases hus:u<s
    ·rw [if_pos hus,getD_lt _ (by simp [ih.len];omega),getD_lt _ (by rw [ih.len];exact hus),List.getElem_append_left (by rw [ih.len];exact hus)]
    ·have:u=s:=by omega
     subst this
     rw [if_neg hus,getD_lt _ (by simp [ih.len]),List.getElem_append_right (by rw [ih.len];omega)]
     simp [ih.len]
   dsimp only
   rw [e2]
   by_cases hus:u<s
   ·obtain ⟨k1,k2⟩:=ih.at_ u hus
    rw [if_pos hus]
    refine ⟨⟨k1.1,by simp only [List.length_append,List.length_cons,List.length_nil];omega⟩,?_⟩
    rw [getD_lt _ (by simp only [List.length_append,List.length_cons,List.length_nil];omega),List.getElem_append_left (by omega),←getD_lt (0:Int) (by omega)]
    exact k2
   ·have:u=s:=by omega
    subst this
    rw [if_neg hus]
    refine ⟨⟨by omega,by simp only [List.length_append,List.length_cons,List.length_nil];omega⟩,?_⟩
    rw [Int.toNat_natCast,getD_lt _ (by simp only [List.length_append,List.length_cons,List.length_nil];omega)]
    simp [hc,-List.getD_eq_getElem?_getD]
  ·rw [h1,if_neg (by omega)]
   refine ⟨ih.found,by simp [ih.len],fun u hu=>?_⟩
   have e2:(r.2++[(n:Int)]).getD u 0=if u<s then r.2.getD u 0 else (n:Int):=by
    by_cases hus:u<s
    ·rw [if_pos hus,getD_lt _ (by simp [ih.len];omega),getD_lt _ (by rw [ih.len];exact hus),List.getElem_append_left (by rw [ih.len];exact hus)]
    ·have:u=s:=by omega
     subst this
     rw [if_neg hus,getD_lt _ (by simp [ih.len]),List.getElem_append_right (by rw [ih.len];omega)]
     simp [ih.len]
   dsimp only
   rw [e2]
   by_cases hus:u<s
   ·rw [if_pos hus];exact ih.at_ u hus
   ·have:u=s:=by omega
    subst this
    rw [if_neg hus]
    exact ⟨⟨by omega,by omega⟩,by rw [Int.toNat_natCast,h3,hc]⟩
structure LInv (m:Mach) (i:Nat) (S:Int×List Int×List (List Int)):Prop where
 found:FoundL m S.2.1
 first:0<S.2.1.length∧S.2.1.getD 0 0=(clM m).getD m.2.2.2.1.toNat 0
 le:i≤S.2.1.length
 rows:S.2.2.length=i
 row:∀ j,j<i→(S.2.2.getD j []).length=m.2.1.toNat∧∀ u:Nat,(u:Int)<m.2.1→(0≤(S.2.2.getD j []).getD u 0∧(S.2.2.getD j []).getD u 0<(S.2.1.length:Int)) ∧
  S.2.1.getD ((S.2.2.getD j []).getD u 0).toNat 0=(clM m).getD (nextM m (S.2.1.getD j 0) (u:Int)).toNat 0
 u32:U32 S.1
 bit:∀ j,bt S.1 j=(decide (j<i)&&bt m.2.2.2.2 (S.2.1.getD j 0).toNat)
theorem getD_app_left {α:Type} {l l':List α} {j:Nat} {d:α} (h:j<l.length):(l++l').getD j d=l.getD j d:=by
 rw [getD_lt _ (by simp;omega),getD_lt _ h,List.getElem_append_left h]
theorem stepL_inv {m:Mach} (g:GoodM m) {i:Nat} {S:Int×List Int×List (List Int)} (h:LInv m i S) (hi:i<S.2.1.length):LInv m (i+1) (stepL m (clM m) i S):=by
 have hx:=(h.found.rep i hi).1
 have hk:=g.1.2.2.1
 have hro:=rowStep_ok g hx h.found m.2.1.toNat (by omega)
 obtain ⟨l,hl⟩:=rowStep_pre m (clM m) (S.2.1.getD i 0) m.2.1.toNat S.2.1
 have hfew:=hro.found.few
 have hN:=g.1.2.1
 unfold stepL
 dsimp only
 generalize hr:rowStep m (clM m) (S.2.1.getD i 0) m.2.1.toNat S.2.1=r at hro hl hfew
 have hpre:∀ j,j<S.2.1.length→r.1.getD j 0=S.2.1.getD j 0:=fun j hj=>by rw [hl];exact getD_app_left hj
 have hlen:S.2.1.length≤r.1.length:=by rw [hl];simp
 refine ⟨hro.found,⟨by dsimp only;omega,by dsimp only;rw [hpre 0 h.first.1];exact h.first.2⟩,by dsimp only;omega,by simp [h.rows],fun j hj=>?_,?_,fun j=>?_⟩
 ·dsimp only
  by_cases hji:j<i
  ·have e:(S.2.2++[r.2]).getD j []=S.2.2.getD j []:=getD_app_left (by rw [h.rows];exact hji)
   rw [e]
   obtain ⟨k1,k2⟩:=h.row j hji
   refine ⟨k1,fun u hu=>?_⟩
   obtain ⟨k3,k4⟩:=k2 u hu
   refine ⟨⟨k3.1,by omega⟩,?_⟩
   rw [hpre _ (by omega),hpre j (by omega)]
   exact k4
  ·have:j=i:=by omega
   subst this
   have e:(S.2.2++[r.2]).getD j []=r.2:=by
    rw [getD_lt _ (by simp [h.rows]),List.getElem_append_right (by rw [h.rows];omega)]
    simp [h.rows]
   rw [e]
   refine ⟨hro.len,fun u hu=>?_⟩
   obtain ⟨k3,k4⟩:=hro.at_ u (by omega)
   exact ⟨k3,by rw [hpre j hi];exact k4⟩
 ·dsimp only
  split
  ·exact u32_or h.u32 (u32_shl1 _)
  ·exact h.u32
 ·dsimp only
  have hb:=h.bit j
  by_cases hji:j=i
  ·subst hji
   rw [hpre j hi]
   simp only [Nat.lt_irrefl,decide_false,Bool.false_and] at hb
   split
   ·rename_i hc
    rw [bt_or h.u32 (u32_shl1 _),bt_shl1 (by omega),hc]
    simp
   ·rename_i hc
    rw [hb]
    have hc':bt m.2.2.2.2 (S.2.1.getD j 0).toNat=false:=by simpa [-List.getD_eq_getElem?_getD] using hc
    rw [hc'];simp
  ·have e:decide (j<i+1)=decide (j<i):=by
    by_cases h2:j<i
    ·have:j<i+1:=by omega
     simp [h2,this]
    ·have:¬j<i+1:=by omega
     simp [h2,this]
   rw [e]
   have e2:(decide (j<i)&&bt m.2.2.2.2 (r.1.getD j 0).toNat)=(decide (j<i)&&bt m.2.2.2.2 (S.2.1.getD j 0).toNat):=by
    by_cases h2:j<i
    ·rw [hpre j (by omega)]
    ·simp [h2]
   rw [e2,←hb]
   split
   ·rw [bt_or h.u32 (u32_shl1 _),bt_shl1 (by omega)]
    have:¬i=j:=fun e=>hji e.symm
    simp [this]
   ·rfl
theorem stL_zero {m:Mach} (g:GoodM m):LInv m 0 (stL m (clM m) 0):=by
 have hcl:=cl_good (m:=m) g.2.2.2.1
 refine ⟨⟨fun j hj=>?_,fun j k hjk hk=>?_⟩,⟨by simp [stL],rfl⟩,Nat.zero_le _,rfl,fun j hj=>absurd hj (by omega),u32_zero,fun j=>by simp [stL,bt_zero]⟩
 ·have:j=0:=by simp [stL] at hj;exact hj
  subst this
  exact ⟨hcl.1,hcl.2.1⟩
 ·simp [stL] at hk
  omega
theorem stL_inv {m:Mach} (g:GoodM m):∀ i,LInv m (min i (stL m (clM m) i).2.1.length) (stL m (clM m) i)
 | 0=>by rw [Nat.zero_min];exact stL_zero g
 | i+1=>by
  have ih:=stL_inv g i
  unfold stL
  by_cases h:i<(stL m (clM m) i).2.1.length
  ·rw [if_pos h]
   rw [Nat.min_eq_left (by omega)] at ih
   have h2:=stepL_inv g ih h
   rw [Nat.min_eq_left h2.le]
   exact h2
  ·rw [if_neg h]
   have e:min (i+1) (stL m (clM m) i).2.1.length=min i (stL m (clM m) i).2.1.length:=by omega
   rw [e]
   exact ih
theorem stL_stay (m:Mach) (cl:List Int) {i:Nat} (h:(stL m cl i).2.1.length≤i):∀ j,stL m cl (i+j)=stL m cl i
 | 0=>rfl
 | j+1=>by
  have ih:=stL_stay m cl h j
  rw [←Nat.add_assoc,stL,ih,if_neg (by omega)]
theorem set_row {row r2:List Int} {s Kn:Nat} {n:Int} (hrl:row.length=Kn) (hs:s<Kn) (hl2:r2.length=s) (hru:∀ u,u<s→row.getD u 0=r2.getD u 0) (u:Nat) (hu:u<s+1):(row.set s n).getD u 0=(r2++[n]).getD u 0:=by
 by_cases hus:u=s
 ·subst hus
  rw [getD_lt _ (by rw [List.length_set];omega),List.getElem_set_self,getD_lt _ (by simp only [List.length_append,List.length_cons,List.length_nil];omega),List.getElem_append_right (by omega)]
  simp [hl2]
 ·rw [getD_lt _ (by rw [List.length_set];omega),List.getElem_set_ne (by omega),getD_app_left (by omega),←hru u (by omega),getD_lt _ (by omega)]
theorem rowLen' {m:Mach} (g:GoodM m) {q:Int} (hq:0≤q∧q<m.1):((m.2.2.1.getD q.toNat ([]:List Int)).length:Int)=m.2.1∧q.toNat<m.2.2.1.length:=by
 have hl:q.toNat<m.2.2.1.length:=by have:=g.2.1.1;omega
 exact ⟨g.2.1.2 _ (getD_mem hl),hl⟩
noncomputable def leastF (m:Mach):Mach :=
 (((stL m (clM m) 7).2.1.length:Int),(m.2.1,((stL m (clM m) 7).2.2,((0:Int),(stL m (clM m) 7).1))))
theorem VC29_of {m:Mach} (hm:Ok MachT m) {K:Mach×Int→Prop} (hbad:∀ e,e≠0→¬GoodM m→K (((0:Int),((0:Int),(([]:(List (List Int))),((0:Int),(0:Int))))),e)) (h:GoodM m→K (leastF m,0)):VC29 m K:=by
 have hu:=ok_mach hm
 unfold VC29
 refine VC43_of hm ⟨fun hc=>hbad _ (by simpa using hc) fun hg=>?_,fun hc=>?_⟩
 ·rw [(chkM_zero m).2 hg] at hc;simp at hc
 have g:=(chkM_zero m).1 (by simpa using hc)
 obtain ⟨⟨a1,a2,a3,a4⟩,b,c,d,e⟩:=id g
 obtain ⟨Kn,hK⟩:∃ N:Nat,m.2.1=(N:Int):=⟨m.2.1.toNat,by omega⟩
 have hKn:m.2.1.toNat=Kn:=by omega
 have hlen:=b.1
 have hclen:=clM_len m
 refine VC57_of hm g ⟨⟨d.1,by have:=d.2;omega⟩,?_⟩
 refine Loop.by (fun s:Int×Int×List Int×List (List Int)=>∃ i:Nat,s.1=(i:Int)∧s.2=stL m (clM m) i∧LInv m i s.2) (fun s=>(8-s.1).toNat) ⟨0,rfl,rfl,stL_zero g⟩ ?_
 rintro ⟨c,out,found,rows⟩ ⟨i,e1,e2,hI⟩ X hX
 dsimp only at e1 e2 hI
 subst e1
 dsimp only
 have hfew:=hI.found.few
 dsimp only at hfew
 unfold VC29_l1
 refine ⟨fun hlt=>⟨⟨by omega,by omega⟩,?_⟩,fun hge=>?_⟩
 ·simp only [decide_eq_true_eq] at hlt
  have hil:i<found.length:=by omega
  have hx:=(hI.found.rep i hil).1
  dsimp only at hx
  refine loop_inv Kn (fun s t=>t.1=(rowStep m (clM m) (found.getD i 0) s found).1∧t.2.length=Kn∧∀ u,u<s→t.2.getD u 0=(rowStep m (clM m) (found.getD i 0) s found).2.getD u 0) ⟨rfl,by simp [hKn],fun u hu=>absurd hu (by omega)⟩ ?_
  rintro s hs ⟨f2,row⟩ ⟨hf2,hrl,hru⟩ X2 hX2
  dsimp only at hf2 hrl hru
  dsimp only
  unfold VC29_l2
  simp only [List.length_replicate,hKn]
  have hro:=rowStep_ok g hx hI.found s (by omega)
  obtain ⟨l,hl⟩:=rowStep_pre m (clM m) (found.getD i 0) s found
  have hfew2:=hro.found.few
  dsimp only at hro hl hfew2
  rw [←hf2] at hl hfew2
  have hgi:f2.getD i 0=found.getD i 0:=by rw [hl];exact getD_app_left hil
  have hlen2:found.length≤f2.length:=by rw [hl];simp
  refine ⟨fun hlt2=>?_,fun hge2=>?_⟩
  ·simp only [decide_eq_true_eq] at hlt2
   simp only [Int.toNat_natCast]
   rw [hgi]
   have hrow:=rowLen' g hx
   have hnx:=next_good g hx (s:=(s:Int)) ⟨by omega,by omega⟩
   have ec:(clM m).getD (((m.2.2.1.getD (found.getD i (0:Int)).toNat ([]:List Int)).getD s (0:Int))).toNat 0=(clM m).getD (nextM m (found.getD i 0) (s:Int)).toNat 0:=rfl
   have en:(m.2.2.1.getD (found.getD i (0:Int)).toNat ([]:List Int)).getD s (0:Int)=nextM m (found.getD i 0) (s:Int):=rfl
   rw [en]
   refine ⟨⟨by omega,by omega⟩,⟨by omega,by omega⟩,⟨by omega,by omega⟩,⟨by omega,by omega⟩,VC58_of (by omega) ⟨fun hneg=>?_,fun hpos=>?_⟩⟩
   ·simp only [decide_eq_true_eq] at hneg
    rw [hf2] at hneg
    have est:rowStep m (clM m) (found.getD i 0) (s+1) found=((rowStep m (clM m) (found.getD i 0) s found).1++[(clM m).getD (nextM m (found.getD i 0) (s:Int)).toNat 0],(rowStep m (clM m) (found.getD i 0) s found).2++[((rowStep m (clM m) (found.getD i 0) s found).1.length:Int)]):=by
     rw [rowStep];try dsimp only
     rw [if_pos hneg]
    refine ⟨by unfold roomN;simp only [List.length_cons,List.length_nil];omega,?_⟩
    unfold VC29_k4
    simp only [Int.toNat_natCast]
    refine ⟨⟨by omega,by omega⟩,⟨by omega,by omega⟩,hX2 _ (by omega) ⟨?_,by simpa using hrl,fun u hu=>?_⟩⟩
    ·try dsimp only
     rw [est,hf2]
    ·try dsimp only
     rw [est]
     have hl2:=rowStep_len m (clM m) (found.getD i 0) s found
     rw [←hf2]
     have:=set_row (n:=(f2.length:Int)) hrl (by omega) hl2 hru u hu
     exact this
   ·simp only [decide_eq_false_iff_not] at hpos
    rw [hf2] at hpos
    have est:rowStep m (clM m) (found.getD i 0) (s+1) found=((rowStep m (clM m) (found.getD i 0) s found).1,(rowStep m (clM m) (found.getD i 0) s found).2++[idxOf (fun y=>decide ((clM m).getD (nextM m (found.getD i 0) (s:Int)).toNat 0=y)) (rowStep m (clM m) (found.getD i 0) s found).1]):=by
     rw [rowStep];try dsimp only
     rw [if_neg hpos]
    unfold VC29_k4
    simp only [Int.toNat_natCast]
    refine ⟨⟨by omega,by omega⟩,⟨by omega,by omega⟩,hX2 _ (by omega) ⟨?_,by simpa using hrl,fun u hu=>?_⟩⟩
    ·try dsimp only
     rw [est,hf2]
    ·try dsimp only
     rw [est]
     have hl2:=rowStep_len m (clM m) (found.getD i 0) s found
     rw [←hf2]
     have:=set_row (n:=idxOf (fun y=>decide ((clM m).getD (nextM m (found.getD i 0) (s:Int)).toNat 0=y)) f2) hrl (by omega) (rowStep_len m (clM m) (found.getD i 0) s found) hru u hu
     exact this
  ·simp only [decide_eq_false_iff_not] at hge2
   have:s=Kn:=by omega
   subst this
   have hrow:row=(rowStep m (clM m) (found.getD i 0) s found).2:=ext_getD 0 (by rw [hrl,hro.len]) fun u hu=>hru u (by omega)
   have hst:stL m (clM m) (i+1)=stepL m (clM m) i (out,found,rows):=by rw [stL,←e2,if_pos hil]
   have hI':=stepL_inv g hI hil
   have hrl2:=hI.rows
   dsimp only at hrl2
   have hx2:=(hro.found.rep i (by rw [←hf2];omega)).1
   rw [←hf2] at hx2
   unfold VC29_k2
   simp only [Int.toNat_natCast]
   refine ⟨by unfold roomN;simp only [List.length_cons,List.length_nil];omega,⟨by omega,by omega⟩,VC44_of hu hx2.1 ⟨fun hb=>⟨by omega,?_⟩,fun hb=>?_⟩⟩
   ·have est:stepL m (clM m) i (out,found,rows)=(bOr .u32 out (bShl .u32 1 (i:Int)),f2,rows++[row]):=by
     unfold stepL;dsimp only;rw [hKn,←hf2,←hrow,if_pos hb]
    unfold VC29_k3
    exact ⟨⟨by omega,by omega⟩,hX _ ⟨i+1,by simp,by dsimp only;rw [hst,est],by dsimp only;rw [←est];exact hI'⟩ (by dsimp only;omega)⟩
   ·have est:stepL m (clM m) i (out,found,rows)=(out,f2,rows++[row]):=by
     unfold stepL;dsimp only;rw [hKn,←hf2,←hrow,hb];rfl
    unfold VC29_k3
    exact ⟨⟨by omega,by omega⟩,hX _ ⟨i+1,by simp,by dsimp only;rw [hst,est],by dsimp only;rw [←est];exact hI'⟩ (by dsimp only;omega)⟩
 ·simp only [decide_eq_false_iff_not] at hge
  have hle:=hI.le
  dsimp only at hle
  have hstay:=stL_stay m (clM m) (i:=i) (by rw [←e2];dsimp only;omega) (7-i)
  rw [show i+(7-i)=7 by omega,←e2] at hstay
  unfold VC29_k1
  have:=h g
  unfold leastF at this
  rw [hstay] at this
  exact this
end Dec
namespace Dec
open Go Go.Proofs
abbrev LSt:=Int×List Int×List (List Int)
def mkL (m:Mach) (S:LSt):Mach:=((S.2.1.length:Int),(m.2.1,(S.2.2,((0:Int),S.1))))
theorem least_le {m:Mach} (g:GoodM m) (n:Nat) (hn:m.1.toNat≤n):(stL m (clM m) n).2.1.length≤m.1.toNat:=by
 have h:=stL_inv g n
 exact h.found.few
theorem minr {n l:Nat} (h:l≤n):min n l=l:=Nat.min_eq_right h
theorem least_inv' {m:Mach} (g:GoodM m) (n:Nat) (hn:m.1.toNat≤n):LInv m (stL m (clM m) n).2.1.length (stL m (clM m) n):=by
 have h:=stL_inv g n
 have e:=minr (Nat.le_trans (least_le g n hn) hn)
 rw [e] at h
 exact h
theorem seven {m:Mach} (g:GoodM m):m.1.toNat≤7:=by have:=g.1.2.1;omega
theorem least_inv {m:Mach} (g:GoodM m):LInv m (stL m (clM m) 7).2.1.length (stL m (clM m) 7):=least_inv' g 7 (seven g)
theorem leastF_eq (m:Mach):leastF m=mkL m (stL m (clM m) 7):=by unfold leastF mkL;rfl
end Dec
namespace Dec
open Go Go.Proofs
theorem rep_eq {m:Mach} {x y:Int} (hx:0≤x) (hy:0≤y) (rx:clI m x.toNat=x.toNat) (ry:clI m y.toNat=y.toNat) (h:EqM m x y):x=y:=by
 obtain ⟨_,_,h3⟩:=clI_spec m x.toNat
 obtain ⟨_,_,k3⟩:=clI_spec m y.toNat
 have ex:((x.toNat:Nat):Int)=x:=by omega
 have ey:((y.toNat:Nat):Int)=y:=by omega
 refine Classical.byContradiction fun hn=>?_
 rcases Nat.lt_or_gt_of_ne (show x.toNat≠y.toNat by omega) with hl | hl
 ·exact k3 x.toNat (by omega) (by rw [ex,ey];exact h.symm)
 ·exact h3 y.toNat (by omega) (by rw [ex,ey];exact h)
theorem findIdx_congr {f g:Int→Bool} : ∀ {la lb:List Int},la.length=lb.length→(∀ j,j<la.length→f (la.getD j 0)=g (lb.getD j 0))→la.findIdx? f=lb.findIdx? g
 | [],[],_,_=>rfl
 | x::la,y::lb,hl,h=>by
  have h0:f x=g y:=h 0 (by simp)
  have ht:=findIdx_congr (la:=la) (lb:=lb) (by simpa using hl) fun j hj=>by
   have:=h (j+1) (by simp;omega)
   exact this
  rw [List.findIdx?_cons,List.findIdx?_cons,h0,ht]
theorem idxOf_congr {f g:Int→Bool} {la lb:List Int} (hl:la.length=lb.length) (h:∀ j,j<la.length→f (la.getD j 0)=g (lb.getD j 0)):idxOf f la=idxOf g lb:=by
 unfold idxOf
 rw [findIdx_congr hl h]
theorem VC18_of {a b:List Int} (hl:a.length≤1000000) {K:Bool→Prop} (h:K (decide (a=b))):VC18 a b K:=by
 unfold VC18
 refine ⟨fun hne=>?_,fun heq=>?_⟩
 ·have:a≠b:=by
   intro e;subst e;simp at hne
  simpa [this] using h
 ·have hlen:a.length=b.length:=by
   simp only [Bool.not_eq_false',decide_eq_true_eq] at heq;omega
  refine loop_count a.length (fun i=>∀ j,j<i→a.getD j 0=b.getD j 0) (fun j hj=>absurd hj (by omega)) ?_
  intro i hi hP X hX
  unfold VC18_l1
  refine ⟨fun hlt=>?_,fun hge=>?_⟩
  ·simp only [decide_eq_true_eq] at hlt
   simp only [Int.toNat_natCast]
   refine ⟨⟨by omega,by omega⟩,⟨by omega,by omega⟩,fun hne=>?_,fun he=>⟨⟨by omega,by omega⟩,hX (by omega) fun j hj=>?_⟩⟩
   ·have:a≠b:=by
     intro e;subst e;simp at hne
    simpa [this] using h
   ·by_cases hji:j<i
    ·exact hP j hji
    ·have:j=i:=by omega
     subst this
     simpa [-List.getD_eq_getElem?_getD] using he
  ·simp only [decide_eq_false_iff_not] at hge
   have:a=b:=ext_getD 0 hlen fun j hj=>hP j (by omega)
   unfold VC18_k1
   simpa [this] using h
theorem VC59_of {a b:List (List Int)} (hl:a.length≤1000000) (hs:∀ l∈a,l.length≤1000000) {K:Bool→Prop} (h:K (decide (a=b))):VC59 a b K:=by
 unfold VC59
 refine ⟨fun hne=>?_,fun heq=>?_⟩
 ·have:a≠b:=by
   intro e;subst e;simp at hne
  simpa [this] using h
 ·have hlen:a.length=b.length:=by
   simp only [Bool.not_eq_false',decide_eq_true_eq] at heq;omega
  refine loop_count a.length (fun i=>∀ j,j<i→a.getD j []=b.getD j []) (fun j hj=>absurd hj (by omega)) ?_
  intro i hi hP X hX
  unfold VC59_l1
  refine ⟨fun hlt=>?_,fun hge=>?_⟩
  ·simp only [decide_eq_true_eq] at hlt
   simp only [Int.toNat_natCast]
   refine ⟨⟨by omega,by omega⟩,⟨by omega,by omega⟩,VC18_of (hs _ (getD_mem (by omega))) ⟨fun hne=>?_,fun he=>⟨⟨by omega,by omega⟩,hX (by omega) fun j hj=>?_⟩⟩⟩
   ·have:a≠b:=by
     intro e;subst e;simp at hne
    simpa [this] using h
   ·by_cases hji:j<i
    ·exact hP j hji
    ·have:j=i:=by omega
     subst this
     simpa [-List.getD_eq_getElem?_getD] using he
  ·simp only [decide_eq_false_iff_not] at hge
   have:a=b:=ext_getD [] hlen fun j hj=>hP j (by omega)
   unfold VC59_k1
   simpa [this] using h
theorem VC30_of {a b:Mach} (ga:GoodM a) {K:Bool→Prop} (h:K (decide (a=b))):VC30 a b K:=by
 unfold VC30
 have hl:=ga.2.1.1
 have h7:=ga.1.2.1
 have h3:=ga.1.2.2.2
 refine gcall_of (decide (a.2.2.1=b.2.2.1)) (fun _ hk=>VC59_of (by omega) (fun l hl'=>by have:=ga.2.1.2 l hl';omega) hk) ?_
 obtain ⟨a1,a2,a3,a4,a5⟩:=a
 obtain ⟨b1,b2,b3,b4,b5⟩:=b
 dsimp only
 have e:decide ((a1,a2,a3,a4,a5)=(b1,b2,b3,b4,b5))=(((((decide (a1=b1))&&(decide (a2=b2)))&&(decide (a4=b4)))&&(decide (a5=b5)))&&(if ((((decide (a1=b1))&&(decide (a2=b2)))&&(decide (a4=b4)))&&(decide (a5=b5)))=true then decide (a3=b3) else false)):=by
  by_cases e1:a1=b1 <;> by_cases e2:a2=b2 <;> by_cases e3:a3=b3 <;> by_cases e4:a4=b4 <;> by_cases e5:a5=b5 <;> simp [e1,e2,e3,e4,e5]
 rw [←e]
 exact h
end Dec
namespace Dec
open Go Go.Proofs
def FRow:Nat→List Int→Nat→Prop
 | t,[],t'=>t'=t
 | t,c::r,t'=>(0≤c∧c<(t:Int)∧FRow t r t')∨(c=(t:Int)∧FRow (t+1) r t')
theorem FRow.snoc:∀ {t:Nat} {r:List Int} {t':Nat} {c:Int},FRow t r t'→∀ {t2},((0≤c∧c<(t':Int)∧t2=t')∨(c=(t':Int)∧t2=t'+1))→FRow t (r++[c]) t2
 | t,[],t',c,h,t2,hc=>by
  have h':t'=t:=h
  subst h'
  rcases hc with ⟨h1,h2,h3⟩ | ⟨h1,h2⟩
  ·exact .inl ⟨h1,h2,h3⟩
  ·exact .inr ⟨h1,h2⟩
 | t,d::r,t',c,h,t2,hc=>by
  rcases h with ⟨h1,h2,h3⟩ | ⟨h1,h2⟩
  ·exact .inl ⟨h1,h2,h3.snoc hc⟩
  ·exact .inr ⟨h1,h2.snoc hc⟩
theorem FRow.back:∀ {t:Nat} {r:List Int} {c:Int} {t2:Nat},FRow t (r++[c]) t2→∃ t',FRow t r t'∧((0≤c∧c<(t':Int)∧t2=t')∨(c=(t':Int)∧t2=t'+1))
 | t,[],c,t2,h=>by
  rcases h with ⟨h1,h2,h3⟩ | ⟨h1,h2⟩
  ·exact ⟨t,rfl,.inl ⟨h1,h2,h3⟩⟩
  ·exact ⟨t,rfl,.inr ⟨h1,h2⟩⟩
 | t,d::r,c,t2,h=>by
  rcases h with ⟨h1,h2,h3⟩ | ⟨h1,h2⟩
  ·obtain ⟨t',k1,k2⟩:=h3.back
   exact ⟨t',.inl ⟨h1,h2,k1⟩,k2⟩
  ·obtain ⟨t',k1,k2⟩:=h2.back
   exact ⟨t',.inr ⟨h1,k1⟩,k2⟩
inductive FRows:List (List Int)→Nat→Prop
 | nil:FRows [] 1
 | snoc (rows:List (List Int)) (row:List Int) (t t':Nat) (h:FRows rows t) (hl:rows.length<t) (hr:FRow t row t'):FRows (rows++[row]) t'
def idl (t:Nat):List Int:=(List.range t).map fun (i:Nat)=>(i:Int)
theorem idl_len (t:Nat):(idl t).length=t:=by simp [idl]
theorem idl_get {t i:Nat} (h:i<t):(idl t).getD i 0=(i:Int):=by
 simp only [idl,List.getD_eq_getElem?_getD,List.getElem?_map,List.getElem?_range h,Option.map_some,Option.getD_some]
theorem idl_snoc (t:Nat):idl t++[(t:Int)]=idl (t+1):=by
 simp [idl,List.range_succ]
theorem idx_idl {t:Nat} {c:Int} : (0≤c∧c<(t:Int)→idxOf (fun y=>decide (c=y)) (idl t)=c)∧(c=(t:Int)→idxOf (fun y=>decide (c=y)) (idl t)<0):=by
 rcases idxOf_spec c (idl t) with ⟨h1,h2⟩ | ⟨n,h1,h2,h3⟩
 ·refine ⟨fun hc=>?_,fun _=>h1⟩
  have:=h2 c.toNat (by rw [idl_len];omega)
  rw [idl_get (by omega)] at this
  omega
 ·rw [idl_len] at h2
  rw [idl_get h2] at h3
  exact ⟨fun _=>by omega,fun hc=>by omega⟩
def Apart (m:Mach):Prop:=∀ i j:Nat,(i:Int)<m.1→(j:Int)<m.1→EqM m (i:Int) (j:Int)→i=j
theorem apart_cl {m:Mach} (g:GoodM m) (ha:Apart m) {x:Int} (hx:0≤x∧x<m.1):(clM m).getD x.toNat 0=x:=by
 rw [clM_get hx]
 obtain ⟨h1,h2,h3⟩:=clI_spec m x.toNat
 have:=ha x.toNat (clI m x.toNat) (by omega) (by omega) h2
 omega
theorem canon_row {m:Mach} (g:GoodM m) (ha:Apart m) {i:Nat} (hi:(i:Int)<m.1) {t:Nat} : ∀ (s:Nat) (t':Nat),s≤m.2.1.toNat→FRow t ((m.2.2.1.getD i []).take s) t'→rowStep m (clM m) (i:Int) s (idl t)=(idl t',(m.2.2.1.getD i []).take s)
 | 0,t',_,h=>by
  have:t'=t:=by simpa [FRow] using h
  subst this
  simp [rowStep]
 | s+1,t',hs,h=>by
  have hil:i<m.2.2.1.length:=by have:=g.2.1.1;omega
  have hrl:=g.2.1.2 _ (getD_mem (d:=([]:List Int)) hil)
  have hsl:s<(m.2.2.1.getD i []).length:=by omega
  have et:(m.2.2.1.getD i []).take (s+1)=(m.2.2.1.getD i []).take s++[(m.2.2.1.getD i []).getD s 0]:=by
   rw [List.take_succ_eq_append_getElem hsl,←getD_lt (0:Int) hsl]
  rw [et] at h ⊢
  obtain ⟨t1,h1,h2⟩:=h.back
  have ih:=canon_row g ha hi s t1 (by omega) h1
  have en:nextM m (i:Int) (s:Int)=(m.2.2.1.getD i []).getD s 0:=by
   unfold nextM;simp only [Int.toNat_natCast]
  have hgood:=next_good g (q:=(i:Int)) (s:=(s:Int)) ⟨by omega,hi⟩ ⟨by omega,by have:=g.1;unfold mA at this;omega⟩
  have ecl:=apart_cl g ha hgood
  rw [en] at ecl
  unfold rowStep
  dsimp only
  rw [ih,en,ecl]
  dsimp only
  rcases h2 with ⟨k1,k2,k3⟩ | ⟨k1,k2⟩
  ·rw [(idx_idl (t:=t1)).1 ⟨k1,k2⟩,if_neg (by omega),k3]
  ·have hneg:=(idx_idl (t:=t1) (c:=(m.2.2.1.getD i []).getD s 0)).2 k1
   rw [if_pos hneg,idl_len,k1,idl_snoc,k2]
theorem canon_st {m:Mach} (g:GoodM m) (ha:Apart m) (h0:m.2.2.2.1=0) {rs:List (List Int)} {t:Nat} (h:FRows rs t):rs=m.2.2.1.take rs.length→rs.length≤m.2.2.1.length→(stL m (clM m) rs.length).2.1=idl t∧(stL m (clM m) rs.length).2.2=rs:=by
 have gA:=g.1
 unfold mA at gA
 have gB:=g.2.1
 have gC:=g.2.2.1
 induction h with
 | nil =>
  intro _ _
  refine ⟨?_,rfl⟩
  have:=apart_cl g ha (x:=0) ⟨by omega,by omega⟩
  show [(clM m).getD m.2.2.2.1.toNat 0]=idl 1
  rw [h0,this]
  rfl
 | snoc rows row t t' h hl hr ih =>
  intro e hle
  rw [List.length_append,List.length_singleton] at e hle
  have hil:rows.length<m.2.2.1.length:=by omega
  rw [List.take_succ_eq_append_getElem hil,←getD_lt ([]:List Int) hil] at e
  obtain ⟨e1,e2⟩:=List.append_inj' e rfl
  injection e2 with e2 _
  obtain ⟨i1,i2⟩:=ih e1 (by omega)
  rw [List.length_append,List.length_singleton]
  have hrl:=gB.2 _ (getD_mem (d:=([]:List Int)) hil)
  have hrt:(m.2.2.1.getD rows.length []).take m.2.1.toNat=row:=by rw [List.take_of_length_le (by omega)];exact e2.symm
  have hst:stL m (clM m) (rows.length+1)=stepL m (clM m) rows.length (stL m (clM m) rows.length):=by
   rw [stL,if_pos (by rw [i1,idl_len];exact hl)]
  have hir:((stL m (clM m) rows.length).2.1).getD rows.length 0=(rows.length:Int):=by rw [i1,idl_get hl]
  have hro:=canon_row g ha (i:=rows.length) (by have:=gB.1;omega) (t:=t) m.2.1.toNat t' (Nat.le_refl _) (by rw [hrt];exact hr)
  rw [hst]
  unfold stepL
  dsimp only
  rw [hir,i1,hro,hrt,i2]
  exact ⟨rfl,rfl⟩
theorem canon_least {m:Mach} (g:GoodM m) (hu:U32 m.2.2.2.2) (ha:Apart m) (h0:m.2.2.2.1=0) (h:FRows m.2.2.1 m.1.toNat):leastF m=m:=by
 have gA:=g.1
 unfold mA at gA
 have gB:=g.2.1
 have hN:m.2.2.1.length=m.1.toNat:=by have:=gB.1;omega
 obtain ⟨e1,e2⟩:=canon_st g ha h0 h (by rw [List.take_length]) (Nat.le_refl _)
 rw [hN] at e1 e2
 have hstay:=stL_stay m (clM m) (i:=m.1.toNat) (by rw [e1,idl_len];exact Nat.le_refl _) (7-m.1.toNat)
 rw [show m.1.toNat+(7-m.1.toNat)=7 by omega] at hstay
 have hinv:=least_inv g
 rw [hstay,e1,idl_len] at hinv
 have hf:(stL m (clM m) m.1.toNat).1=m.2.2.2.2:=by
  refine u32_ext hinv.u32 hu fun i hi=>?_
  rw [hinv.bit i,e1]
  by_cases hiN:i<m.1.toNat
  ·rw [idl_get hiN];simp [hiN]
  ·have hE:=g.2.2.2.2
   unfold mE at hE
   rw [(below_bt hu).1 hE i (by omega)]
   simp [hiN]
 unfold leastF
 rw [hstay,e1,e2,hf,idl_len]
 obtain ⟨a,b,c,d,e⟩:=m
 simp only at h0 gA ⊢
 rw [h0,show ((a.toNat:Nat):Int)=a by omega]
end Dec
