/-
The end of a drawn region with a turn of the state's words. A call whose body is walked in place: the caller's slots stand behind the callee's own.
-/
import Derived.Test.YtljlpmfmfcljaaaDecV
set_option linter.unusedSimpArgs false
set_option linter.unusedVariables false
namespace Dec
open Go Go.RowKit
variable {M:Md→Prop}
end Dec
namespace Dec
open Go Go.RowKit
variable {M:Md→Prop}
def capV1:Cap→V1
 | .pt r off=>.c (.ptr r off)
 | .ad d=>.c (.ad d.1 d.2)
 | .no=>.c .any
def inlCallee (st:St) (c:Call):Option (FuncId×List V1) :=
 match c.callee with
 | .value (.func f)=>some (f,[])
 | .value (.tmp i)=>match st.get [] i with
  | some (.v (.c (.fn f caps)))=>some (f,caps.map fun d=>.c (.ad d.1 d.2))
  | some (.v (.c (.cl f caps)))=>some (f,caps.map capV1)
  | _=>none
 | _=>none
def inlArgs (st:St):List Operand→Option (List V1)
 | []=>some []
 | x::r=>match st.val [] x,inlArgs st r with
  | some (.v y),some l=>some (y::l)
  | _,_=>none
def outSl (m:Nat):List (Nat×Path×AV)→List (Nat×Path×AV)
 | []=>[]
 | (i,[],x)::r=>(m+i,[],x)::outSl m r
 | (_,_::_,_)::r=>outSl m r
def inSl (m d:Nat):List (Nat×Path×AV)→List (Nat×Path×AV)
 | []=>[]
 | (i,[],x)::r=>if m≤i&&i != m+d then (i-m,[],x)::inSl m d r else inSl m d r
 | (_,_::_,_)::r=>inSl m d r
def flatHp:List (Nat×Path×Con)→List (Nat×Path×Con)
 | []=>[]
 | (r,[],c)::l=>(r,[],c)::flatHp l
 | (_,_::_,_)::l=>flatHp l
theorem mem_outSl {m:Nat} {e:Nat×Path×AV} : ∀ {l:List (Nat×Path×AV)},e∈outSl m l→∃ i,(i,[],e.2.2)∈l∧e.1=m+i∧e.2.1=[]
 | [],h=>by simp [outSl] at h
 | (i,[],x)::r,h=>by
  simp only [outSl,List.mem_cons] at h
  rcases h with rfl | h
  ·exact ⟨i,by simp,rfl,rfl⟩
  ·obtain ⟨j,h1,h2⟩:=mem_outSl h
   exact ⟨j,by simp [h1],h2⟩
 | (i,_::_,x)::r,h=>by
  simp only [outSl] at h
  obtain ⟨j,h1,h2⟩:=mem_outSl h
  exact ⟨j,by simp [h1],h2⟩
theorem mem_inSl {m d:Nat} {e:Nat×Path×AV} : ∀ {l:List (Nat×Path×AV)},e∈inSl m d l→e.2.1=[]∧e.1≠d∧(m+e.1,[],e.2.2)∈l
 | [],h=>by simp [inSl] at h
 | (i,[],x)::r,h=>by
  simp only [inSl] at h
  split at h
  ·rename_i hc
   simp only [Bool.and_eq_true,decide_eq_true_eq,bne_iff_ne,ne_eq] at hc
   rcases List.mem_cons.1 h with rfl | h
   ·refine ⟨rfl,by show i-m≠d;omega,?_⟩
    show (m+(i-m),[],x)∈_
    rw [show m+(i-m)=i by omega]
    simp
   ·obtain ⟨h1,h2,h3⟩:=mem_inSl h
    exact ⟨h1,h2,by simp [h3]⟩
  ·obtain ⟨h1,h2,h3⟩:=mem_inSl h
   exact ⟨h1,h2,by simp [h3]⟩
 | (i,_::_,x)::r,h=>by
  simp only [inSl] at h
  obtain ⟨h1,h2,h3⟩:=mem_inSl h
  exact ⟨h1,h2,by simp [h3]⟩
theorem mem_flatHp {e:Nat×Path×Con} : ∀ {l:List (Nat×Path×Con)},e∈flatHp l→e∈l∧e.2.1=[]
 | [],h=>by simp [flatHp] at h
 | (r,[],c)::l,h=>by
  simp only [flatHp,List.mem_cons] at h
  rcases h with rfl | h
  ·exact ⟨by simp,rfl⟩
  ·obtain ⟨h1,h2⟩:=mem_flatHp h
   exact ⟨by simp [h1],h2⟩
 | (r,_::_,c)::l,h=>by
  simp only [flatHp] at h
  obtain ⟨h1,h2⟩:=mem_flatHp h
  exact ⟨by simp [h1],h2⟩
def St.inner (st:St) (m:Nat) (args:List V1):St:=⟨m,argSlots 0 args++outSl m st.sl,flatHp st.hp⟩
def St.back (st0:St) (m d:Nat) (st':St) (av:AV):St:=⟨st0.n,(d,[],av)::inSl m d st'.sl,flatHp st'.hp⟩
def Ghost.only (G:Ghost) (D:List Nat):Ghost:={ G with col:=fun b=>match G.col b with | some q=>if q∈D then some q else none | none=>none }
theorem only_col {G:Ghost} {D:List Nat} {b r:Nat} (h:(G.only D).col b=some r):G.col b=some r∧r∈D:=by
 unfold Ghost.only at h
 simp only at h
 split at h
 ·rename_i q hq
  split at h
  ·rename_i hd
   injection h with h
   subst h
   exact ⟨hq,hd⟩
  ·cases h
 ·cases h
theorem col_only {G:Ghost} {D:List Nat} {b r:Nat} (h:G.col b=some r) (hr:r∈D):(G.only D).col b=some r:=by
 unfold Ghost.only
 simp only [h,if_pos hr]
section
variable {P:Program} {w0 w:World} {S0:Base} {G:Ghost} {st:St} {a:Act} {ops:Array Oper} {Q:XE→St→Prop} {D:List Nat}
theorem inlArgs_rep (hs:SR w0 S0 G st a w):∀ {xs:List Operand} {l:List V1},inlArgs st xs=some l→All2 (V1Rep w G) l (xs.map a.eval)
 | [],l,h=>by simp only [inlArgs] at h;injection h with h;subst h;trivial
 | x::r,l,h=>by
  simp only [inlArgs] at h
  split at h
  ·rename_i y l' h1 h2
   injection h with h
   subst h
   exact ⟨hs.val_ holds_nil h1,inlArgs_rep hs h2⟩
  ·cases h
theorem caps_v1 {caps:List Cap} {vs:List Value} (h:All2 (CapRep w G) caps vs):All2 (V1Rep w G) (caps.map capV1) vs:=by
 refine All2.map_left (R:=CapRep w G) ?_ h
 intro x v hx
 cases x with
 | pt r off=>exact hx
 | ad d=>exact hx
 | no=>trivial
theorem capsAd_v1 {caps:List Dat} {vs:List Value} (h:All2 (fun (d:Dat) u=>AdRep w G.S d.1 d.2 u) caps vs):All2 (V1Rep w G) (caps.map fun d=>V1.c (.ad d.1 d.2)) vs:=by
 refine All2.map_left (R:=fun (d:Dat) u=>AdRep w G.S d.1 d.2 u) ?_ h
 intro x v hx
 exact hx
theorem inl_enter {l cl:List V1} {f:FuncId} {c:Call} {o:Oper} (hs:SR w0 S0 G st a w) (ho:o.op=.call c) (hcal:inlCallee st c=some (f,cl)) (hf:FnOk P f) (hargs:inlArgs st c.args.toList=some l) :
  ∃ vs:List Value,(execOp a.eval o).run P w=.ok (.enter f vs.toArray) w∧All2 (V1Rep w G) (l++cl) vs:=by
 have hr:=inlArgs_rep hs hargs
 unfold inlCallee at hcal
 split at hcal
 ·rename_i g hc
  injection hcal with hcal;injection hcal with e1 e2;subst e1 e2
  refine ⟨c.args.toList.map a.eval,?_,by simpa using hr⟩
  unfold execOp
  simp only [ho,resolve,hc,Act.eval,Deferred.ofValue,invoke,Sem.run_bind,Sem.run_pure,Result.andThen_ok]
  rw [hf]
  congr 2
  apply Array.ext'
  simp
 ·rename_i i hc
  split at hcal
  ·rename_i g caps hget
   injection hcal with hcal;injection hcal with e1 e2;subst e1 e2
   obtain ⟨cvs,hv,hcv⟩:=hs.get_ holds_nil hget
   refine ⟨c.args.toList.map a.eval++cvs,?_,hr.append (capsAd_v1 hcv)⟩
   unfold execOp
   simp only [ho,resolve,hc,Act.eval,hv,Deferred.ofValue,invoke,Sem.run_bind,Sem.run_pure,Result.andThen_ok]
   rw [hf]
   congr 2
   apply Array.ext'
   simp
  ·rename_i g caps hget
   injection hcal with hcal;injection hcal with e1 e2;subst e1 e2
   obtain ⟨cvs,hv,hcv⟩:=hs.get_ holds_nil hget
   refine ⟨c.args.toList.map a.eval++cvs,?_,hr.append (caps_v1 hcv)⟩
   unfold execOp
   simp only [ho,resolve,hc,Act.eval,hv,Deferred.ofValue,invoke,Sem.run_bind,Sem.run_pure,Result.andThen_ok]
   rw [hf]
   congr 2
   apply Array.ext'
   simp
  ·cases hcal
 ·cases hcal
def innerBase (S0:Base) (G:Ghost) (D:List Nat) (a:Act) (m:Nat):Base:={ S:=G.S,F:=Xof D G,outer:=fun j=>slotV S0 a (j-m) }
theorem SR.innerB {fn:Func} {args:List V1} {vs:List Value} (hs:SR w0 S0 G st a w) (hD:(flatHp st.hp).all (fun e=>D.contains e.1)=true) (hlen:args.length=vs.length) (hn:args.length≤fn.ntmps) (hargs:All2 (V1Rep w G) args vs) :
  SR w (innerBase S0 G D a fn.ntmps) (G.only D) (st.inner fn.ntmps args) { tmps:=vs.toArray++Array.replicate (fn.ntmps-vs.toArray.size) undef,defers:=[] } w:=by
 have hsz:({ tmps:=vs.toArray++Array.replicate (fn.ntmps-vs.toArray.size) undef,defers:=[] } : Act).tmps.size=fn.ntmps:=by simp;omega
 refine ⟨Fr.refl _ _ _,fun b hb=>⟨(hs.sub b hb).1,.inl hb⟩,fun b r hb=>?_,DfOk.none _ _ _ rfl,hsz,fun e he=>?_,fun e he _=>?_⟩
 ·obtain ⟨h1,h2⟩:=only_col hb
  have:=hs.colr b r h1
  exact ⟨.inl ⟨r,h2,h1⟩,this.2.1,this.2.2⟩
 ·rcases List.mem_append.1 he with he | he
  ·obtain ⟨h1,h2,v,h3,h4⟩:=argSlots_mem (G:=G) hargs he
   have hlt:e.1<vs.length:=by have:=(List.getElem?_eq_some_iff.1 h3).1;omega
   have hv:({ tmps:=vs.toArray++Array.replicate (fn.ntmps-vs.toArray.size) undef,defers:=[] } : Act).tmps.getD e.1 undef=v:=by
    simp only [Array.getD_eq_getD_getElem?]
    rw [Array.getElem?_append_left (by simpa using hlt)]
    simp at h3 ⊢
    rw [h3]
    rfl
   refine ⟨trivial,fun _=>?_,fun hn=>absurd (by rw [h1];exact holds_nil) hn⟩
   rw [slotV_in (by rw [hsz];omega),hv]
   exact AVRep.keep (w:=w) (G:=G) (fun b hb=>⟨hb,rfl⟩) (fun _ _=>rfl) h4
  ·obtain ⟨i,h1,h2,h3⟩:=mem_outSl he
   refine ⟨trivial,fun _=>?_,fun hn=>absurd (by rw [h3];exact holds_nil) hn⟩
   have h4:=(hs.sl _ h1).2.1 holds_nil
   have h5:slotV (innerBase S0 G D a fn.ntmps) ({ tmps:=vs.toArray++Array.replicate (fn.ntmps-vs.toArray.size) undef,defers:=[] } : Act) e.1=slotV S0 a i:=by
    unfold slotV
    rw [if_neg (by rw [hsz];omega)]
    show slotV S0 a (e.1-fn.ntmps)=_
    rw [show e.1-fn.ntmps=i by omega]
    rfl
   rw [h5]
   exact AVRep.keep (w:=w) (G:=G) (fun b hb=>⟨hb,rfl⟩) (fun _ _=>rfl) h4
 ·obtain ⟨h1,h2⟩:=mem_flatHp he
  have h3:=hs.hp e h1 (by rw [h2];exact holds_nil)
  have h4:e.1∈D:=by
   have:=List.all_eq_true.1 hD e he
   simpa using this
  exact ConRep.keep (w:=w) (G:=G) (fun b hb=>⟨hb,rfl⟩) rfl (fun _ _=>rfl) (fun b hb=>⟨col_only hb h4,rfl⟩) h3
theorem SR.backB {m d:Nat} {G':Ghost} {st':St} {a1:Act} {w':World} {av:AV} {v:Value} (hs:SR w0 S0 G st a w) (h1:SR w (innerBase S0 G D a m) G' st' a1 w') (hn:st'.n=m) (hd:d<st.n) (hav:AVRep w' G' av v) :
  ∃ G2,Mv D G w G2 w'∧SR w0 S0 G2 (st.back m d st' av) (a.put (some d) v) w':=by
 have hsz:=h1.below.size
 have hsz0:=hs.below.size
 have hF:∀ b,Xof D G b→S0.F b∨w0.heap.size≤b:=by
  rintro b ⟨q,_,hq⟩
  exact (hs.colr b q hq).1
 have hXS:∀ b,Xof D G b→¬G.S b:=by
  rintro b ⟨q,_,hq⟩
  exact (hs.colr b q hq).2.2
 have hSS:∀ b,G.S b→(G'.S b∨G.S b)∧w'.heap[b]? = w.heap[b]?:=fun b hb=>⟨.inr hb,h1.below.block b (hs.sub b hb).1 (fun hx=>hXS b hx hb)⟩
 have hk:∀ b,G'.S b→({ G' with S:=fun b=>G'.S b∨G.S b } : Ghost).S b∧w'.heap[b]? = w'.heap[b]?:=fun b hb=>⟨.inl hb,rfl⟩
 refine ⟨{ G' with S:=fun b=>G'.S b∨G.S b },⟨hsz,fun b hb hx=>h1.below.block b hb hx,fun b q hq=>?_⟩,?_,fun b hb=>?_,fun b r hb=>?_,hs.df.keep hSS rfl,by simpa [Act.put,St.back] using hs.size,fun e he=>?_,fun e he _=>?_⟩
 ·rcases (h1.colr b q hq).1 with h2 | h2
  ·exact .inr (.inr h2)
  ·exact .inl h2
 ·refine hs.below.trans (h1.below.mono hsz0 fun k hk hx=>?_)
  rcases hF k hx with h2 | h2
  ·exact h2
  ·omega
 ·rcases hb with hb | hb
  ·obtain ⟨h2,h3⟩:=h1.sub b hb
   refine ⟨h2,?_⟩
   rcases h3 with h3 | h3 | h3
   ·exact (hs.sub b h3).2
   ·exact .inr (.inl (by omega))
   ·rcases hF b h3 with h4 | h4
    ·exact .inr (.inr h4)
    ·exact .inr (.inl h4)
  ·have:=hs.sub b hb
   exact ⟨by omega,this.2⟩
 ·obtain ⟨h2,h3,h4⟩:=h1.colr b r hb
  refine ⟨?_,h3,?_⟩
  ·rcases h2 with h2 | h2
   ·exact hF b h2
   ·exact .inr (by omega)
  ·rintro (hh | hh)
   ·exact h4 hh
   ·rcases h2 with h2 | h2
    ·exact hXS b h2 hh
    ·have:=(hs.sub b hh).1;omega
 ·simp only [St.back,List.mem_cons] at he
  rcases he with rfl | he
  ·refine ⟨trivial,fun _=>?_,fun hn=>absurd holds_nil hn⟩
   rw [slotV_put_same (by rw [hs.size];exact hd)]
   exact AVRep.keep hk (fun _ _=>rfl) hav
  ·obtain ⟨h2,h3,h4⟩:=mem_inSl he
   refine ⟨trivial,fun _=>?_,fun hn=>absurd (by rw [h2];exact holds_nil) hn⟩
   rw [slotV_put_ne h3]
   have h5:=(h1.sl _ h4).2.1 holds_nil
   have h6:slotV (innerBase S0 G D a m) a1 (m+e.1)=slotV S0 a e.1:=by
    have h7:¬(m+e.1)<a1.tmps.size:=by rw [h1.size,hn];omega
    conv=>lhs;unfold slotV
    rw [if_neg h7]
    show slotV S0 a (m+e.1-m)=_
    rw [show m+e.1-m=e.1 by omega]
   simp only [h6] at h5
   exact AVRep.keep hk (fun _ _=>rfl) h5
 ·obtain ⟨h2,h3⟩:=mem_flatHp he
  exact ConRep.keep hk rfl (fun _ _=>rfl) (fun b hb=>⟨hb,rfl⟩) (h1.hp e h2 (by rw [h3];exact holds_nil))
end
end Dec
