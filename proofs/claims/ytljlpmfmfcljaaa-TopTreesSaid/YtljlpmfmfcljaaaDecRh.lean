/-
Ranges over functions: a loop's body under contract, a call of yield, and the statement. Ranges over functions: the contract of a loop's body out of its demand. The statement: a range over a function, its iterator walked in place.
-/
import Derived.Test.YtljlpmfmfcljaaaDecAb
import Derived.RangeFuncIn
set_option linter.unusedSimpArgs false
set_option linter.unusedVariables false
namespace Dec
open Go Go.RowKit
variable {M:Md→Prop}
def LYCalls (P:Program) (r0:Nat) (D B:List Nat) (hp0:Hp) (args:List V1) (K:AV→Hp→Prop):Prop :=
 ∀ (w:World) (G:Ghost) (vs:List Value),(∀ b,G.S b→b<w.heap.size)→(∀ b r,G.col b=some r→b<w.heap.size∧¬G.S b)→(∀ e∈hp0,ConRep w G e.1 e.2.2)→All2 (V1Rep w G) args vs →
  ∀ l,G.rho r0=.func (.yield l) #[] #[]→YieldAt Fence.wide 0 P l vs.toArray w fun en w'=>∃ v G' av hp',en=.returned v∧Fr (Xof D G) w.heap.size w w'∧(∀ b,G'.S b→b<w'.heap.size∧(G.S b∨w.heap.size≤b∨Xof D G b)) ∧
   (∀ b r,G'.col b=some r→(Xof D G b∨w.heap.size≤b)∧b<w'.heap.size∧¬G'.S b)∧(∀ r∈B,G'.rho r=G.rho r)∧AVRep w' G' av v∧okHp D hp'=true∧(∀ e∈hp',ConRep w' G' e.1 e.2.2)∧K av hp'
section
variable {P:Program} {w0 w:World} {S0:Base} {G:Ghost} {st:St} {a:Act} {ops:Array Oper} {Q:XE→St→Prop}
theorem upon_round' {m:Md} {QQ:Exit→Act→World→Prop} {o:Oper} {K:Act→World→Prop} {l fn:Nat} {tmps:Array Value} {assign body:Code} {w':World} (h:(execOp a.eval o).run P w=.ok (.round l fn tmps assign body) w')
  (hK:RoundIn Fence.wide 0 P l fn tmps assign body w' fun | .returned v,w''=>K (a.put o.dst v) w'' | .panicked chain,w''=>QQ (.panic chain) a w'' | .outgrown,_=>LetsOut QQ):o.wpIn m.F 0 P a w K QQ:=by
 have hd:∀ c,o.op≠.defer c:=by
  intro c e
  unfold execOp at h
  rw [e] at h
  simp only [Sem.run_bind] at h
  revert h
  cases (resolve a.eval c o.type).run P w <;> simp [Result.andThen]
 refine ⟨fun f _=>m.fn f,?_⟩
 rw [m.round,Oper.semAt_eq _ _ _ hd,h,Oper.uponIn_round]
 refine ⟨fun hh=>(by rw [m.depth] at hh;cases hh),?_⟩
 cases m with
 | none=>exact hK
 | some l'=>exact hK
def yldCallee (st:St) (c:Call):Option Nat :=
 match c.callee with
 | .value (.tmp i)=>match st.get [] i with
  | some (.v (.c (.yv r)))=>some r
  | _=>none
 | _=>none
theorem yld_enter {l:List V1} {r0:Nat} {c:Call} {o:Oper} (hs:SR w0 S0 G st a w) (ho:o.op=.call c) (hcal:yldCallee st c=some r0) (hargs:inlArgs st c.args.toList=some l) :
  ∃ (vs:List Value) (y:Nat),G.rho r0=.func (.yield y) #[] #[]∧(execOp a.eval o).run P w=(Instr.yield y vs.toArray).run P w∧All2 (V1Rep w G) l vs:=by
 have hr:=inlArgs_rep hs hargs
 unfold yldCallee at hcal
 split at hcal
 ·rename_i i hc
  split at hcal
  ·rename_i r hget
   injection hcal with hcal
   subst hcal
   obtain ⟨hv,y,hy⟩:=hs.get_ holds_nil hget
   refine ⟨c.args.toList.map a.eval,y,by rw [←hv,hy],?_,hr⟩
   unfold execOp
   simp only [ho,resolve,hc,Act.eval,hy,Deferred.ofValue,invoke,Sem.run_bind,Sem.run_pure,Result.andThen_ok]
   congr 2
   apply Array.ext'
   simp
  ·cases hcal
 ·cases hcal
theorem adop_ycall {σ τ:Type} {i:Nat} {o:Oper} {done T:List Nat} {c:Call} {d r0:Nat} (D B:List Nat) (l:List V1) (H:σ→Hp) (H':τ→Hp) (K0:σ→Prop) (K1:τ→Prop) (hp0:Hp) (S:σ→St) (S':τ→St)
  (hi:ops[i]? = some o) (hDT:(D.all fun q=>T.contains q)=true)
  (hg:o.guard=none) (hd:o.dst=some d) (hdn:decide (d<st.n)=true) (ho:o.op=.call c) (hcal:yldCallee st c=some r0) (hargs:inlArgs st c.args.toList=some l) (hpk:pick st.hp D=hp0) (hok:okHp D hp0=true)
  (hS:∀ y,st.lentB D B d (.v (.c (.p .bool true))) (H y)=S y) (hS':∀ y,st.lentB D B d (.v (.c (.p .bool false))) (H' y)=S' y)
  (hlc:LYCalls P r0 D B hp0 l (fun av hp'=>(∃ y,av=.v (.c (.p .bool true))∧hp'=H y∧K0 y)∨(∃ y,av=.v (.c (.p .bool false))∧hp'=H' y∧K1 y)))
  (h:∀ y,K0 y→AWD M P ops T (i::done) Q (S y)) (h':∀ y,K1 y→AWD M P ops T (i::done) Q (S' y)):ADOp M P ops T done i Q st:=by
 intro m w0 S0 G a w hs
 simp only [decide_eq_true_eq] at hdn
 unfold owp wpOpIn
 simp only [hi]
 have hw:Region.wanted o (yielded ops a.tmps)=true:=by simp [Region.wanted,hg]
 rw [if_pos hw]
 obtain ⟨vs,yy,hrho,hen,hr2⟩:=yld_enter (P:=P) hs ho hcal hargs
 obtain ⟨fn,tmps,assign,body,hy,hR⟩:=hlc w G vs (fun b hb=>(hs.sub b hb).1) (fun b r hb=>(hs.colr b r hb).2) (fun e he=>by
  obtain ⟨k1,_⟩:=okHp_mem hok he
  have:e∈st.hp:=by rw [←hpk] at he;exact pick_mem he
  exact hs.hp e this (by rw [k1];exact holds_nil)) hr2 yy hrho
 refine upon_round' (hen.trans hy) (hR.mono ?_)
 rintro e w' ⟨v,G',av,hp',rfl,h1,h2,h3,h4,h5,h6,h7,hk⟩
 simp only [hd]
 have hT':∀ q∈D,q∈T:=fun q hq=>by simpa using List.all_eq_true.1 hDT q hq
 rcases hk with ⟨y,rfl,rfl,hk⟩ | ⟨y,rfl,rfl,hk⟩
 ·obtain ⟨G2,hmv,hs2⟩:=hs.lentB (d:=d) hdn h1 h2 h3 h4 h5 (fun _ h=>by cases h) h6 h7
  have:=h y hk
  rw [←hS y] at this
  exact ⟨Nx.of_mv hT' hmv,awpH_weaken (fun w2 h8=>Nx.step hT' hmv h8) _ _ _ _ (this _ _ _ _ _ _ hs2)⟩
 ·obtain ⟨G2,hmv,hs2⟩:=hs.lentB (d:=d) hdn h1 h2 h3 h4 h5 (fun _ h=>by cases h) h6 h7
  have:=h' y hk
  rw [←hS' y] at this
  exact ⟨Nx.of_mv hT' hmv,awpH_weaken (fun w2 h8=>Nx.step hT' hmv h8) _ _ _ _ (this _ _ _ _ _ _ hs2)⟩
theorem awd_lpz {done:List Nat} {D:List Nat} {r:Nat} {x0:Go.Loop} {sl:List (Nat×AV)} {k:Int} {st':St} (hk:k=0) (hget:st.con [] r=some (.lp x0 k sl)) (h:st.upd r (.lp x0 0 sl)=st') (hr:AWD M P ops D done Q st'):AWD M P ops D done Q st:=by
 subst hk
 subst h
 intro m w0 S0 G a w hs
 exact hr m w0 S0 G a w (hs.retell (hs.con_ holds_nil hget))
end
end Dec
namespace Dec
open Go Go.RowKit
variable {M:Md→Prop}
theorem fold_size:∀ (l:List (Nat×Value)) (t:Array Value),(l.foldl (fun t p=>t.setIfInBounds p.1 p.2) t).size=t.size
 | [],_=>rfl
 | p::l,t=>by rw [List.foldl_cons,fold_size l];simp
theorem fold_miss:∀ (l:List (Nat×Value)) (t:Array Value) (j:Nat),j∉l.map (·.1)→(l.foldl (fun t p=>t.setIfInBounds p.1 p.2) t).getD j undef=t.getD j undef
 | [],_,_,_=>rfl
 | p::l,t,j,h=>by
  simp only [List.map_cons,List.mem_cons,not_or] at h
  rw [List.foldl_cons,fold_miss l _ j h.2]
  simp only [Array.getD_eq_getD_getElem?,Array.getElem?_setIfInBounds]
  rw [if_neg (fun e=>h.1 e.symm)]
theorem fold_hit:∀ (l:List (Nat×Value)) (t:Array Value),(l.map (·.1)).Nodup→∀ p∈l,p.1<t.size→(l.foldl (fun t p=>t.setIfInBounds p.1 p.2) t).getD p.1 undef=p.2
 | [],_,_,p,hp,_=>by simp at hp
 | q::l,t,hn,p,hp,hlt=>by
  simp only [List.map_cons,List.nodup_cons] at hn
  rw [List.foldl_cons]
  rcases List.mem_cons.1 hp with rfl | hp
  ·rw [fold_miss l _ _ hn.1]
   simp only [Array.getD_eq_getD_getElem?,Array.getElem?_setIfInBounds]
   simp [hlt]
  ·exact fold_hit l _ hn.2 p hp (by simpa using hlt)
def recSlots (ps:List Nat) (args:List V1) (sl:List (Nat×AV)):List (Nat×Path×AV) :=
 ((ps.zip args).map fun p=>(p.1,[],.v p.2))++((sl.filter fun e=>!ps.contains e.1).map fun e=>(e.1,[],e.2))
def yOk (n:Nat) (D D' B':List Nat) (st':St):Prop:=st'.n=n∧hasBox st'.sl n B'=true∧okHp D' (pick st'.hp D')=true∧okHp D (pick st'.hp D')=true
def yretQ (n r0:Nat) (x0:Go.Loop) (sl:List (Nat×AV)) (D D' B':List Nat) (K:AV→Hp→Prop):XE→St→Prop
 | .n,st'=>yOk n D D' B' st'∧K (.v (.c (.p .bool true))) ((r0,[],.lp x0 0 sl)::pick st'.hp D')
 | .r,st'=>yOk n D D' B' st'∧K (.v (.c (.p .bool false))) ((r0,[],.lp x0 1 sl)::pick st'.hp D')
 | .x id,st'=>yOk n D D' B' st'∧K (.v (.c (.p .bool false))) ((r0,[],.lp x0 (2+(id:Int)) sl)::pick st'.hp D')
def asgQ (K:St→Prop):XE→St→Prop
 | .n,s=>K s
 | _,_=>False
section
variable {P:Program} {w0 w:World} {S0:Base} {G:Ghost} {st:St} {a:Act}
theorem SR.putObj (h:SR w0 S0 G st a w) {l:Nat} {o:Obj} (h0:w0.heap.size≤l∨S0.F l) (hS:¬G.S l) (hc:∀ e∈st.hp,G.col l≠some e.1):SR w0 S0 G st a (w.putObj l o):=by
 have hk:∀ b,G.S b→G.S b∧(w.putObj l o).heap[b]? = w.heap[b]?:=fun b hb=>⟨hb,World.putObj_heap_other (fun e=>by subst e;exact hS hb)⟩
 refine ⟨h.below.trans ⟨Nat.le_refl _,rfl,rfl,rfl,by rw [World.putObj_size];exact Nat.le_refl _,fun k hk hF=>World.putObj_heap_other fun e=>?_⟩,fun b hb=>by rw [World.putObj_size];exact h.sub b hb,fun b r hb=>by rw [World.putObj_size];exact h.colr b r hb,h.df.keep hk rfl,h.size,fun e he=>?_,fun e he hh=>?_⟩
 ·subst e
  rcases h0 with h0 | h0
  ·omega
  ·exact hF h0
 ·obtain ⟨k1,k2,k3⟩:=h.sl e he
  exact ⟨k1,fun hh=>AVRep.keep hk (fun _ _=>rfl) (k2 hh),k3⟩
 ·exact ConRep.keep hk rfl (fun _ _=>rfl) (fun b hb=>⟨hb,World.putObj_heap_other (fun e'=>by subst e';exact hc e he hb)⟩) (h.hp e he hh)
theorem SR.put2 (h:SR w0 S0 G st a w) {l:Nat} {o:Obj} (h0:l<w0.heap.size) (hS:¬G.S l) (hc:∀ e∈st.hp,G.col l≠some e.1):SR (w0.putObj l o) S0 G st a (w.putObj l o):=by
 have hk:∀ b,G.S b→G.S b∧(w.putObj l o).heap[b]? = w.heap[b]?:=fun b hb=>⟨hb,World.putObj_heap_other (fun e=>by subst e;exact hS hb)⟩
 have hb:=h.below
 refine ⟨⟨hb.drawn,hb.os,hb.tape,hb.output,by rw [World.putObj_size,World.putObj_size];exact hb.size,fun k hkk hF=>?_⟩,fun b hb=>?_,fun b r hb=>?_,?_,h.size,fun e he=>?_,fun e he hh=>?_⟩
 ·rw [World.putObj_size] at hkk
  by_cases e:k=l
  ·subst e
   rw [World.putObj_heap_same (Nat.lt_of_lt_of_le hkk hb.size),World.putObj_heap_same hkk]
  ·rw [World.putObj_heap_other e,World.putObj_heap_other e]
   exact hb.block k hkk hF
 ·rw [World.putObj_size,World.putObj_size];exact h.sub b hb
 ·rw [World.putObj_size,World.putObj_size];exact h.colr b r hb
 ·have h1:=h.df.keep (a':=a) hk rfl
  obtain ⟨rs,k1,k2,k3⟩:=h1
  exact ⟨rs,k1,k2,fun r hr=>by rw [World.putObj_size];exact k3 r hr⟩
 ·obtain ⟨k1,k2,k3⟩:=h.sl e he
  exact ⟨k1,fun hh=>AVRep.keep hk (fun _ _=>rfl) (k2 hh),k3⟩
 ·exact ConRep.keep hk rfl (fun _ _=>rfl) (fun b hb=>⟨hb,World.putObj_heap_other (fun e'=>by subst e';exact hc e he hb)⟩) (h.hp e he hh)
theorem jumpOf_exit (id:Nat):jumpOf (2+(id:Int))=some (.exit id):=by
 unfold jumpOf
 rw [if_neg (by omega),if_neg (by omega)]
 congr 2
 omega
theorem lyield_of_aw {x0:Go.Loop} {sl:List (Nat×AV)} {r0 n:Nat} {ps:Array Nat} {assign body:Code} {args:List V1} {hp0 hp1:Hp} {K:AV→Hp→Prop} (D B D' B':List Nat)
  (hps:x0.params=ps) (has:x0.assign=assign) (hbd:x0.body=body) (hn:x0.tmps.size=n)
  (h0:lk hp0 r0=some ([],.lp x0 0 sl)) (hchk:(D.contains r0&&(D'.all fun q=>D.contains q&&q != r0)&&(B.all fun q=>q == r0||B'.contains q)&&(sl.all fun e=>decide (e.1<n)&&(e.2.tagsIn D&&e.2.tagsIn B'))&&ps.toList.all (fun p=>decide (p<n))&&decide (args.length=ps.toList.length))=true)
  (hnd:ps.toList.Nodup) (hok:okHp D hp0=true) (hp1e:pick hp0 D'=hp1) (hok1:okHp D' hp1=true) (hbx:boxesIn hp1 B'=true)
  (h:AW Rm P assign (asgQ (AW Rm P body (yretQ n r0 x0 sl D D' B' K))) ⟨n,recSlots ps.toList args sl++boxSl hp1 n B',hp1⟩):LYCalls P r0 D B hp0 args K:=by
 simp only [Bool.and_eq_true,decide_eq_true_eq] at hchk
 obtain ⟨⟨⟨⟨⟨c1,c2⟩,c3⟩,c4⟩,c5⟩,c6⟩:=hchk
 have hr0D:r0∈D:=by simpa using c1
 have hD':∀ q∈D',q∈D∧q≠r0:=fun q hq=>by
  have:=List.all_eq_true.1 c2 q hq
  simpa using this
 have hBB:∀ q∈B,q=r0∨q∈B':=fun q hq=>by
  have:=List.all_eq_true.1 c3 q hq
  simpa using this
 have hsl:∀ e∈sl,∀ q,e.2.has q=true→q∈D∧q∈B':=fun e he q hq=>by
  have:=List.all_eq_true.1 c4 e he
  simp only [Bool.and_eq_true] at this
  exact ⟨AV.tagsIn_has this.2.1 hq,AV.tagsIn_has this.2.2 hq⟩
 have hsln:∀ e∈sl,e.1<n:=fun e he=>by
  have:=List.all_eq_true.1 c4 e he
  simp only [Bool.and_eq_true,decide_eq_true_eq] at this
  exact this.1
 have hslD:(sl.all fun e=>e.2.tagsIn D)=true:=List.all_eq_true.2 fun e he=>by
  have:=List.all_eq_true.1 c4 e he
  simp only [Bool.and_eq_true] at this
  exact this.2.1
 intro w G vs hS hcol hhp hargs l hl
 have hlen:=hargs.length
 obtain ⟨l',e1,hlc,hlb,hslr⟩:=hhp _ (lk_mem h0)
 have e1:G.rho r0=.func (.yield l') #[] #[]:=e1
 have:l'=l:=by
  rw [hl] at e1
  injection e1 with e1
  injection e1 with e1
  exact e1.symm
 subst this
 have hlt:l'<w.heap.size:=(Array.getElem?_eq_some_iff.1 hlb).1
 have hlS:¬G.S l':=(hcol _ _ hlc).2
 have hlX:¬Xof D' G l':=by
  rintro ⟨q,hq,hqc⟩
  rw [hlc] at hqc
  injection hqc with hqc
  exact (hD' q hq).2 hqc.symm
 have hXX:∀ b,Xof D' G b→Xof D G b:=fun b ⟨q,hq,hqc⟩=>⟨q,(hD' q hq).1,hqc⟩
 have hXS:∀ b,Xof D G b→¬G.S b:=by
  rintro b ⟨q,_,hq⟩
  exact (hcol b q hq).2
 have hy:=run_yield (P:=P) (args:=vs.toArray) hlb (by
  show vs.toArray.size=x0.params.size
  rw [hps]
  simp
  rw [←hlen,c6]
  simp)
 refine ⟨x0.fn,_,assign,body,(by rw [←has,←hbd];exact hy),roundIn_of_wpIn trivial ?_⟩
 let T:Array Value:=(x0.params.zip vs.toArray).foldl (fun tmps (t,a)=>tmps.setIfInBounds t a) x0.tmps
 have hT:T=((ps.toList.zip vs).foldl (fun t p=>t.setIfInBounds p.1 p.2) x0.tmps):=by
  show (x0.params.zip vs.toArray).foldl _ x0.tmps=_
  rw [hps,←Array.foldl_toList,Array.toList_zip]
 have hTs:T.size=n:=by rw [hT,fold_size,hn]
 have hlz:vs.length=ps.toList.length:=by rw [←hlen,c6]
 have hmap:(ps.toList.zip vs).map (·.1)=ps.toList:=by rw [List.map_fst_zip (by omega)]
 let S0:Base:={ S:=G.S,F:=Xof D' G,outer:=fun j=>G.rho (B'.getD (j-n) 0) }
 have hs:SR w S0 (G.only D') ⟨n,recSlots ps.toList args sl++boxSl hp1 n B',hp1⟩ { tmps:=T,defers:=[] } w:=by
  refine ⟨Fr.refl _ _ _,fun b hb=>⟨hS b hb,.inl hb⟩,fun b r hb=>?_,DfOk.none _ _ _ rfl,hTs,fun e he=>?_,fun e he _=>?_⟩
  ·obtain ⟨h1,h2⟩:=only_col hb
   have:=hcol b r h1
   exact ⟨.inl ⟨r,h2,h1⟩,this.1,this.2⟩
  ·have low:∀ (i:Nat) (x:AV) (v:Value),i<n→T.getD i undef=v→AVRep w G x v →
     Ins n i∧(Holds { tmps:=T,defers:=[] } []→AVRep w (G.only D') x (slotV S0 { tmps:=T,defers:=[] } i))∧(¬Holds { tmps:=T,defers:=[] } []→slotV S0 { tmps:=T,defers:=[] } i=undef):=by
    intro i x v hi hv hx
    refine ⟨trivial,fun _=>?_,fun hn=>absurd holds_nil hn⟩
    rw [slotV_in (by show i<T.size;rw [hTs];exact hi)]
    show AVRep w (G.only D') x (T.getD i undef)
    rw [hv]
    exact AVRep.keep (w:=w) (G:=G) (fun b hb=>⟨hb,rfl⟩) (fun _ _=>rfl) hx
   rcases List.mem_append.1 he with he | he
   ·rcases List.mem_append.1 he with he | he
    ·obtain ⟨p,hp,rfl⟩:=List.mem_map.1 he
     obtain ⟨i,hi1,hi2⟩:=List.mem_iff_getElem.1 hp
     have hi3:i<ps.toList.length∧i<args.length:=by
      rw [List.length_zip] at hi1;omega
     have hi4:i<vs.length:=by omega
     have hp1:p.1=ps.toList[i]:=by rw [←hi2,List.getElem_zip]
     have hp2:p.2=args[i]:=by rw [←hi2,List.getElem_zip]
     have hplt:p.1<n:=by
      have:=List.all_eq_true.1 c5 p.1 (by rw [hp1];exact List.getElem_mem _)
      simpa using this
     have hz:(p.1,vs[i])∈ps.toList.zip vs:=by
      rw [hp1]
      refine List.mem_iff_getElem.2 ⟨i,by rw [List.length_zip];omega,?_⟩
      rw [List.getElem_zip]
     have hv:=fold_hit (ps.toList.zip vs) x0.tmps (by rw [hmap];exact hnd) _ hz (by rw [hn];exact hplt)
     have hav:V1Rep w G p.2 vs[i]:=by
      obtain ⟨v,hv1,hv2⟩:=hargs.get i p.2 (by rw [hp2,List.getElem?_eq_getElem])
      rw [List.getElem?_eq_getElem hi4] at hv1
      injection hv1 with hv1
      rw [hv1]
      exact hv2
     exact low p.1 (.v p.2) vs[i] hplt (by rw [hT];exact hv) hav
    ·obtain ⟨e0,he0,rfl⟩:=List.mem_map.1 he
     simp only [List.mem_filter,Bool.not_eq_true',List.contains_eq_mem,decide_eq_false_iff_not] at he0
     have hmiss:=fold_miss (ps.toList.zip vs) x0.tmps e0.1 (by rw [hmap];exact he0.2)
     exact low e0.1 e0.2 _ (hsln e0 he0.1) (by rw [hT];exact hmiss) (hslr e0 he0.1)
   ·obtain ⟨k,r,h1,h2⟩:=boxSl_mem he
    subst h2
    refine ⟨trivial,fun _=>?_,fun hn=>absurd holds_nil hn⟩
    have h3:slotV S0 ({ tmps:=T,defers:=[] } : Act) (n+k)=G.rho r:=by
     unfold slotV
     rw [if_neg (by rw [hTs];omega)]
     show G.rho (B'.getD (n+k-n) 0)=_
     rw [show n+k-n=k by omega]
     simp [List.getD,h1]
    show AVRep w (G.only D') (.v (.c (kindB hp1 r))) (slotV S0 _ (n+k))
    rw [h3]
    refine ClRep.keep (w:=w) (G:=G) (fun b hb=>⟨hb,rfl⟩) (fun _ _=>rfl) (kind_of_boxes hbx (fun e he=>?_) (List.mem_of_getElem? h1))
    rw [←hp1e] at he
    exact hhp e (pick_mem he)
  ·obtain ⟨h1,h2,h3⟩:=okHp_mem hok1 he
   refine ConRep.keep (w:=w) (G:=G) (fun b hb=>⟨hb,rfl⟩) rfl (fun _ _=>rfl) (fun b hb=>⟨col_only hb h2,rfl⟩) (hhp e ?_)
   rw [←hp1e] at he
   exact pick_mem he
 have hA:=h ⟨some l',by simp⟩ w S0 _ _ w hs
 refine Go.wpIn_mono hA ?_
 intro e a1 w1 hq
 cases e with
 | exit id=>obtain ⟨G1,st1,hs1,hb1⟩:=hq;exact hb1.elim
 | ret=>obtain ⟨G1,st1,hs1,hb1⟩:=hq;exact hb1.elim
 | goto l=>exact hq.elim
 | panic ch=>exact hq.elim
 | outgrown=>exact hq.elim
 | normal =>
  obtain ⟨G1,st1,hs1,hb1⟩:=hq
  have hb1:AW Rm P body (yretQ n r0 x0 sl D D' B' K) st1:=hb1
  have hl1:w1.heap[l']? = some (.loop (recAt x0 0)):=(hs1.below.block l' hlt hlX).trans hlb
  have hcl1:∀ q,G1.col l'≠some q:=fun q hq=>by
   rcases (hs1.colr l' q hq).1 with h2 | h2
   ·exact hlX h2
   ·omega
  have hS1:¬G1.S l':=fun hh=>by
   rcases (hs1.sub l' hh).2 with h2 | h2 | h2
   ·exact hlS h2
   ·omega
   ·exact hlX h2
  refine ⟨_,run_beginRound hl1 rfl,?_⟩
  have hs2:=hs1.put2 (o:=.loop { recAt x0 0 with state:=.busy }) hlt hS1 (fun e he=>hcl1 e.1)
  refine Go.wpIn_mono (hb1 ⟨some l',by simp⟩ _ _ _ _ _ hs2) ?_
  have fin:∀ (jump:Option Code) (k:Int) (b:Bool) (G3:Ghost) (st3:St) (a3:Act) (w3:World),SR (w.putObj l' (.loop { recAt x0 0 with state:=.busy })) S0 G3 st3 a3 w3→jumpOf k=jump→jump.isNone=b→(k=0↔b=true) →
    yOk n D D' B' st3→K (.v (.c (.p .bool b))) ((r0,[],.lp x0 k sl)::pick st3.hp D') →
    ∃ v w',(Instr.endRound l' jump).run P w3=.ok v w'∧∃ v' G' av hp',Ending.returned v=.returned v'∧Fr (Xof D G) w.heap.size w w'∧(∀ b,G'.S b→b<w'.heap.size∧(G.S b∨w.heap.size≤b∨Xof D G b)) ∧
     (∀ b r,G'.col b=some r→(Xof D G b∨w.heap.size≤b)∧b<w'.heap.size∧¬G'.S b)∧(∀ r∈B,G'.rho r=G.rho r)∧AVRep w' G' av v'∧okHp D hp'=true∧(∀ e∈hp',ConRep w' G' e.1 e.2.2)∧K av hp':=by
   intro jump k b G3 st3 a3 w3 hs3 hj hjn hk hyo hK
   have hsz:(w.putObj l' (.loop { recAt x0 0 with state:=.busy })).heap.size=w.heap.size:=World.putObj_size
   have hl3:w3.heap[l']? = some (.loop { recAt x0 0 with state:=.busy }):=by
    rw [hs3.below.block l' (by rw [hsz];exact hlt) hlX]
    exact World.putObj_heap_same hlt
   have hlt3:l'<w3.heap.size:=(Array.getElem?_eq_some_iff.1 hl3).1
   have hend:=run_endRound (P:=P) jump hl3
   have hrec:({ { recAt x0 0 with state:=.busy } with state:=if jump.isNone then .ready else .done,pending:=jump } : Go.Loop)=recAt x0 k:=by
    have hst:(if jump.isNone=true then LoopState.ready else LoopState.done)=(if k=0 then LoopState.ready else LoopState.done):=by
     cases b with
     | true=>rw [hjn,if_pos rfl,if_pos (hk.2 rfl)]
     | false=>rw [hjn,if_neg (by simp),if_neg (fun h=>by have:=hk.1 h;cases this)]
    show ({ x0 with state:=_,pending:=jump } : Go.Loop) = { x0 with state:=_,pending:=jumpOf k }
    rw [hj,hst]
   rw [hrec,hjn] at hend
   obtain ⟨hn1,hbx1,hok3,hok4⟩:=hyo
   let w4:=w3.putObj l' (.loop (recAt x0 k))
   let G4:Ghost:={ S:=fun b=>G3.S b∨G.S b,col:=fun b=>if b=l' then some r0 else G3.col b,rho:=fun q=>if q=r0 then G.rho r0 else G3.rho q }
   have hw4:∀ b,b≠l'→w4.heap[b]? = w3.heap[b]?:=fun b hb=>World.putObj_heap_other hb
   have hsz3:w.heap.size≤w3.heap.size:=by have:=hs3.below.size;rw [hsz] at this;exact this
   have hsz4:w4.heap.size=w3.heap.size:=World.putObj_size
   have hcl3:∀ q,G3.col l'≠some q:=fun q hq=>by
    rcases (hs3.colr l' q hq).1 with h2 | h2
    ·exact hlX h2
    ·rw [hsz] at h2;omega
   have hS3:¬G3.S l':=fun hh=>by
    rcases (hs3.sub l' hh).2 with h2 | h2 | h2
    ·exact hlS h2
    ·rw [hsz] at h2;omega
    ·exact hlX h2
   have hw3:∀ b,b<w.heap.size→¬Xof D G b→w3.heap[b]? = w.heap[b]?:=fun b hb hx=>by
    have hne:b≠l':=fun e=>hx (by rw [e];exact ⟨r0,hr0D,hlc⟩)
    rw [hs3.below.block b (by rw [hsz];exact hb) (fun hh=>hx (hXX b hh))]
    exact World.putObj_heap_other hne
   have hGS:∀ b,G.S b→G4.S b∧w4.heap[b]? = w.heap[b]?:=fun b hb=>⟨.inr hb,by
    rw [hw4 b (fun e=>by subst e;exact hlS hb)]
    exact hw3 b (hS b hb) (fun hx=>hXS b hx hb)⟩
   have hG3:∀ b,G3.S b→G4.S b∧w4.heap[b]? = w3.heap[b]?:=fun b hb=>⟨.inl hb,hw4 b (fun e=>by subst e;exact hS3 hb)⟩
   have hrho:∀ q∈B',G3.rho q=G.rho q:=by
    intro q hq
    obtain ⟨j,hj1,hj2⟩:=List.mem_iff_getElem.1 hq
    have hj3:B'[j]? = some q:=by rw [List.getElem?_eq_getElem hj1,hj2]
    obtain ⟨x,hx,hmem⟩:=hasBox_get hbx1 hj3
    have h2:=(hs3.sl _ hmem).2.1 holds_nil
    have h3:slotV S0 a3 (n+j)=G.rho q:=by
     unfold slotV
     rw [if_neg (by rw [hs3.size,hn1];omega)]
     show G.rho (B'.getD (n+j-n) 0)=_
     rw [show n+j-n=j by omega]
     simp [List.getD,hj3]
    rw [←h3]
    exact rho_of_box hx h2
   have hrho4:∀ q∈B,G4.rho q=G.rho q:=by
    intro q hq
    show (if q=r0 then _ else _)=_
    rcases hBB q hq with rfl | hq
    ·rw [if_pos rfl]
    ·by_cases e:q=r0
     ·subst e;rw [if_pos rfl]
     ·rw [if_neg e];exact hrho q hq
   have hrho5:∀ q∈B',G4.rho q=G.rho q:=by
    intro q hq
    show (if q=r0 then _ else _)=_
    by_cases e:q=r0
    ·subst e;rw [if_pos rfl]
    ·rw [if_neg e];exact hrho q hq
   refine ⟨_,w4,hend,.bool b,G4,.v (.c (.p .bool b)),(r0,[],.lp x0 k sl)::pick st3.hp D',rfl,⟨?_,?_,?_,?_,by rw [hsz4];exact hsz3,fun c hc hx=>?_⟩,fun c hc=>?_,fun c q hc=>?_,hrho4,rfl,?_,?_,hK⟩
   ·exact hs3.below.drawn
   ·exact hs3.below.os
   ·exact hs3.below.tape
   ·exact hs3.below.output
   ·rw [hw4 c (fun e=>hx (by rw [e];exact ⟨r0,hr0D,hlc⟩))]
    exact hw3 c hc hx
   ·rw [hsz4]
    rcases hc with hc | hc
    ·obtain ⟨k1,k2⟩:=hs3.sub c hc
     refine ⟨k1,?_⟩
     rcases k2 with k2 | k2 | k2
     ·exact .inl k2
     ·rw [hsz] at k2;exact .inr (.inl k2)
     ·exact .inr (.inr (hXX c k2))
    ·have:=hS c hc
     exact ⟨by omega,.inl hc⟩
   ·rw [hsz4]
    have hc':(if c=l' then some r0 else G3.col c)=some q:=hc
    split at hc'
    ·rename_i e
     subst e
     refine ⟨.inl ⟨r0,hr0D,hlc⟩,hlt3,?_⟩
     rintro (hh | hh)
     ·exact hS3 hh
     ·exact hlS hh
    ·obtain ⟨k1,k2,k3⟩:=hs3.colr c q hc'
     refine ⟨?_,k2,?_⟩
     ·rcases k1 with k1 | k1
      ·exact .inl (hXX c k1)
      ·rw [hsz] at k1;exact .inr k1
     ·rintro (hh | hh)
      ·exact k3 hh
      ·rcases k1 with k1 | k1
       ·exact hXS c (hXX c k1) hh
       ·rw [hsz] at k1;have:=hS c hh;omega
   ·simp only [okHp,Bool.and_eq_true] at hok4 ⊢
    refine ⟨⟨by simpa using hr0D,hslD⟩,hok4⟩
   ·intro e he
    rcases List.mem_cons.1 he with rfl | he
    ·refine ⟨l',?_,?_,World.putObj_heap_same hlt3,fun e he=>?_⟩
     ·show (if r0=r0 then _ else _)=_
      rw [if_pos rfl];exact hl
     ·show (if l'=l' then _ else _)=_
      rw [if_pos rfl]
     ·exact AVRep.keep hGS (fun q hq=>hrho5 q (hsl e he q hq).2) (hslr e he)
    ·obtain ⟨k1,k2,k3⟩:=okHp_mem hok3 he
     have h5:=hs3.hp e (pick_mem he) (by rw [k1];exact holds_nil)
     have hne:∀ q∈D',G4.rho q=G3.rho q:=fun q hq=>by
      show (if q=r0 then _ else _)=_
      rw [if_neg (hD' q hq).2]
     refine ConRep.keep hG3 (hne _ k2) (fun q hq=>hne q (Con.tagsIn_has k3 hq)) (fun c hc=>?_) h5
     have hcl:c≠l':=fun e'=>by subst e';exact hcl3 _ hc
     refine ⟨?_,hw4 c hcl⟩
     show (if c=l' then _ else _)=_
     rw [if_neg hcl]
     exact hc
  intro e a3 w3 hq
  cases e with
  | normal =>
   obtain ⟨G3,st3,hs3,hy3,hK⟩:=hq
   exact fin none 0 true G3 st3 a3 w3 hs3 rfl rfl (by simp) hy3 hK
  | ret =>
   obtain ⟨G3,st3,hs3,hy3,hK⟩:=hq
   exact fin (some .ret) 1 false G3 st3 a3 w3 hs3 rfl rfl (by simp) hy3 hK
  | exit id =>
   obtain ⟨G3,st3,hs3,hy3,hK⟩:=hq
   exact fin (some (.exit id)) (2+(id:Int)) false G3 st3 a3 w3 hs3 (jumpOf_exit id) rfl (by simp;omega) hy3 hK
  | goto l=>exact hq.elim
  | panic ch=>exact hq.elim
  | outgrown=>exact hq.elim
end
end Dec
namespace Dec
open Go Go.RowKit
variable {M:Md→Prop}
def recSl (sl:List (Nat×Path×AV)) (n:Nat) (is:List Nat):List (Nat×AV) :=
 (pick sl is).filterMap fun e=>match e with
  | (i,[],x)=>if i<n then some (i,x) else none
  | _=>none
theorem mem_recSl {sl:List (Nat×Path×AV)} {n:Nat} {is:List Nat} {e:Nat×AV} (h:e∈recSl sl n is):(e.1,[],e.2)∈sl∧e.1<n:=by
 unfold recSl at h
 obtain ⟨x,hx,hf⟩:=List.mem_filterMap.1 h
 obtain ⟨i,p,y⟩:=x
 cases p with
 | nil =>
  simp only at hf
  split at hf
  ·rename_i hlt
   injection hf with hf
   subst hf
   exact ⟨pick_mem hx,hlt⟩
  ·cases hf
 | cons _ _=>cases hf
def rfSt (st:St) (r0 d:Nat) (x0:Go.Loop) (is:List Nat):St :=
 ⟨st.n,(d,[],.v (.c (.yv r0)))::(st.purge r0).sl,(r0,[],.lp x0 0 (recSl (st.purge r0).sl st.n is))::(st.purge r0).hp⟩
def rfBack (st0:St) (m d r0:Nat) (st':St):St:=(⟨st0.n,inSl m d st'.sl,flatHp st'.hp⟩:St).purge r0
def rfQ (st0:St) (m d r0:Nat) (x0:Go.Loop) (Q:XE→St→Prop):XE→St→Prop
 | .x _,_=>False
 | _,st'=>∃ k sl,st'.n=m∧lk st'.hp r0=some ([],.lp x0 k sl)∧lk st'.sl (m+d)=some ([],.v (.c (.yv r0))) ∧
   (k=0→Q .n (rfBack st0 m d r0 st'))∧(k≠0→k=1→Q .r (rfBack st0 m d r0 st'))∧(k≠0→k≠1→∃ id:Nat,(k-2).toNat=id∧Q (.x id) (rfBack st0 m d r0 st'))
theorem rfQ_n {st0:St} {m d r0:Nat} {x0:Go.Loop} {Q:XE→St→Prop} {st':St} (k:Int) (sl:List (Nat×AV)) (h1:st'.n=m) (h2:lk st'.hp r0=some ([],.lp x0 k sl)) (h3:lk st'.sl (m+d)=some ([],.v (.c (.yv r0))))
  (h:(k=0→Q .n (rfBack st0 m d r0 st'))∧(k≠0→k=1→Q .r (rfBack st0 m d r0 st'))∧(k≠0→k≠1→∃ id:Nat,(k-2).toNat=id∧Q (.x id) (rfBack st0 m d r0 st'))):rfQ st0 m d r0 x0 Q .n st':=⟨k,sl,h1,h2,h3,h⟩
section
variable {P:Program} {w0 w:World} {S0:Base} {G:Ghost} {st:St} {a:Act} {D:List Nat}
theorem SR.allocS (h:SR w0 S0 G st a w) (o:Obj):SR w0 S0 { G with S:=fun b=>G.S b∨b=w.heap.size } st a (w.alloc o):=by
 refine h.move (fun _=>False) (fun b hb=>⟨.inl hb,heap_push_old w o (h.sub b hb).1⟩) (fun _ _=>rfl) (fun b r _ hb=>⟨hb,heap_push_old w o (h.colr b r hb).2.1⟩) (h.below.alloc h.below_size o) (fun b hb=>?_) (fun b r hb=>?_) rfl (fun e he=>⟨he,fun _ _=>id⟩) (fun e he=>⟨he,id,fun _ _=>id⟩)
 ·rw [World.size_alloc]
  rcases hb with hb | rfl
  ·have:=h.sub b hb
   exact ⟨by omega,this.2⟩
  ·exact ⟨by omega,.inr (.inl h.below_size)⟩
 ·rw [World.size_alloc]
  have:=h.colr b r hb
  refine ⟨this.1,by omega,?_⟩
  rintro (hh | rfl)
  ·exact this.2.2 hh
  ·omega
theorem SR.marked (h:SR w0 S0 G st a w) {r:Nat} (hS:G.S r) (h0:w0.heap.size≤r) (hr:w.heap[r]? = some (.deferred (some []))) (hn:∀ rs:List Nat,a.defers=rs.map mark→r∉rs):SR w0 S0 G st { a with defers:=mark r::a.defers } w:=by
 obtain ⟨rs,k1,k2,k3⟩:=h.df
 refine ⟨h.below,h.sub,h.colr,⟨r::rs,by simp [k1],List.nodup_cons.2 ⟨hn rs k1,k2⟩,fun q hq=>?_⟩,h.size,h.sl,h.hp⟩
 rcases List.mem_cons.1 hq with rfl | hq
 ·exact ⟨hS,h0,hr⟩
 ·exact k3 q hq
theorem SR.outerSlot (h:SR w0 S0 G st a w) {d:Nat} {x:AV} {v:Value} (hd:st.n≤d) (hno:∀ e∈st.sl,e.1≠d) (hx:AVRep w G x v):SR w0 { S0 with outer:=fun j=>if j=d then v else S0.outer j } G ⟨st.n,(d,[],x)::st.sl,st.hp⟩ a w:=by
 have hne:∀ i,i≠d→slotV { S0 with outer:=fun j=>if j=d then v else S0.outer j } a i=slotV S0 a i:=fun i hi=>by
  unfold slotV
  split
  ·rfl
  ·show (if i=d then v else S0.outer i)=_
   rw [if_neg hi]
 refine ⟨h.below,h.sub,h.colr,h.df,h.size,fun e he=>?_,h.hp⟩
 rcases List.mem_cons.1 he with rfl | he
 ·refine ⟨trivial,fun _=>?_,fun hn=>absurd holds_nil hn⟩
  have:slotV { S0 with outer:=fun j=>if j=d then v else S0.outer j } a d=v:=by
   unfold slotV
   rw [if_neg (by rw [h.size];omega)]
   show (if d=d then v else _)=v
   rw [if_pos rfl]
  rw [this]
  exact hx
 ·obtain ⟨k1,k2,k3⟩:=h.sl e he
  rw [hne e.1 (hno e he)]
  exact ⟨k1,k2,k3⟩
theorem SR.noOuter {d:Nat} {v:Value} (h:SR w0 { S0 with outer:=fun j=>if j=d then v else S0.outer j } G st a w) (hno:∀ e∈st.sl,e.1≠d):SR w0 S0 G st a w:=by
 refine ⟨h.below,h.sub,h.colr,h.df,h.size,fun e he=>?_,h.hp⟩
 have hne:slotV { S0 with outer:=fun j=>if j=d then v else S0.outer j } a e.1=slotV S0 a e.1:=by
  unfold slotV
  split
  ·rfl
  ·show (if e.1=d then v else S0.outer e.1)=_
   rw [if_neg (hno e he)]
 have:=h.sl e he
 rw [hne] at this
 exact this
theorem SR.backB0 {m d:Nat} {G':Ghost} {st':St} {a1:Act} {w':World} (hs:SR w0 S0 G st a w) (h1:SR w (innerBase S0 G D a m) G' st' a1 w') (hn:st'.n=m) :
  SR w0 S0 { G' with S:=fun b=>G'.S b∨G.S b } ⟨st.n,inSl m d st'.sl,flatHp st'.hp⟩ a w':=by
 have hsz:=h1.below.size
 have hsz0:=hs.below.size
 have hF:∀ b,Xof D G b→S0.F b∨w0.heap.size≤b:=by
  rintro b ⟨q,_,hq⟩
  exact (hs.colr b q hq).1
 have hXS:∀ b,Xof D G b→¬G.S b:=by
  rintro b ⟨q,_,hq⟩
  exact (hs.colr b q hq).2.2
 have hSS:∀ b,G.S b→(G'.S b∨G.S b)∧w'.heap[b]? = w.heap[b]?:=fun b hb=>⟨.inr hb,h1.below.block b (hs.sub b hb).1 (fun hx=>hXS b hx hb)⟩
 have hk:∀ b,G'.S b→({ G' with S:=fun b=>G'.S b∨G.S b } : Ghost).S b∧w'.heap[b]? = w'.heap[b]?:=fun b hb=>⟨.inl hb,rfl⟩
 refine ⟨?_,fun b hb=>?_,fun b r hb=>?_,hs.df.keep hSS rfl,hs.size,fun e he=>?_,fun e he _=>?_⟩
 ·refine hs.below.trans (h1.below.mono hsz0 fun k hk hx=>?_)
  rcases hF k hx with h2 | h2
  ·exact h2
  ·omega
 ·rcases hb with hb | hb
  ·obtain ⟨h2,h3⟩:=h1.sub b hb
   refine ⟨h2,?_⟩
   rcases h3 with h3 | h3 | h3
   ·exact (hs.sub b h3).2
   ·exact .inr (.inl (by omega))
   ·rcases hF b h3 with h4 | h4
    ·exact .inr (.inr h4)
    ·exact .inr (.inl h4)
  ·have:=hs.sub b hb
   exact ⟨by omega,this.2⟩
 ·obtain ⟨h2,h3,h4⟩:=h1.colr b r hb
  refine ⟨?_,h3,?_⟩
  ·rcases h2 with h2 | h2
   ·exact hF b h2
   ·exact .inr (by omega)
  ·rintro (hh | hh)
   ·exact h4 hh
   ·rcases h2 with h2 | h2
    ·exact hXS b h2 hh
    ·have:=(hs.sub b hh).1;omega
 ·obtain ⟨h2,h3,h4⟩:=mem_inSl he
  refine ⟨trivial,fun _=>?_,fun hn=>absurd (by rw [h2];exact holds_nil) hn⟩
  have h5:=(h1.sl _ h4).2.1 holds_nil
  have h6:slotV (innerBase S0 G D a m) a1 (m+e.1)=slotV S0 a e.1:=by
   have h7:¬(m+e.1)<a1.tmps.size:=by rw [h1.size,hn];omega
   conv=>lhs;unfold slotV
   rw [if_neg h7]
   show slotV S0 a (m+e.1-m)=_
   rw [show m+e.1-m=e.1 by omega]
  simp only [h6] at h5
  exact AVRep.keep hk (fun _ _=>rfl) h5
 ·obtain ⟨h2,h3⟩:=mem_flatHp he
  exact ConRep.keep hk rfl (fun _ _=>rfl) (fun b hb=>⟨hb,rfl⟩) (h1.hp e h2 (by rw [h3];exact holds_nil))
def rfCallee (st:St) (g:Operand):Option (FuncId×List V1) :=
 match g with
 | .tmp i=>match st.get [] i with
  | some (.v (.c (.fn f caps)))=>some (f,caps.map fun d=>V1.c (.ad d.1 d.2))
  | some (.v (.c (.cl f caps)))=>some (f,caps.map capV1)
  | _=>none
 | _=>none
theorem rf_value {f:FuncId} {cl:List V1} {g:Operand} (hs:SR w0 S0 G st a w) (h:rfCallee st g=some (f,cl)):∃ cvs:List Value,a.eval g=.func (.func f) #[] cvs.toArray∧All2 (V1Rep w G) cl cvs:=by
 unfold rfCallee at h
 split at h
 ·rename_i i
  split at h
  ·rename_i g caps hget
   injection h with h;injection h with e1 e2;subst e1 e2
   obtain ⟨cvs,hv,hcv⟩:=hs.get_ holds_nil hget
   exact ⟨cvs,hv,capsAd_v1 hcv⟩
  ·rename_i g caps hget
   injection h with h;injection h with e1 e2;subst e1 e2
   obtain ⟨cvs,hv,hcv⟩:=hs.get_ holds_nil hget
   exact ⟨cvs,hv,caps_v1 hcv⟩
  ·cases h
 ·cases h
theorem mark_inj {rs qs:List Nat} (h:rs.map mark=qs.map mark):rs=qs:=by
 induction rs generalizing qs with
 | nil=>cases qs with
  | nil=>rfl
  | cons _ _=>cases h
 | cons r rs ih =>
  cases qs with
  | nil=>cases h
  | cons q qs =>
   simp only [List.map_cons,List.cons.injEq] at h
   have h1:r=q:=by
    have:=h.1
    unfold mark at this
    injection this with e1
    injection e1
   rw [h1,ih h.2]
theorem aw_rangeFunc {g:Operand} {ps:Array Nat} {assign body fbody:Code} {Q:XE→St→Prop} {f:FuncId} {fn:Func} (r0 d:Nat) (is D:List Nat) (cl:List V1)
  (hg:rfCallee st g=some (f,cl)) (hf:FnOk P f) (hfn:P.funcs[f]? = some fn) (hb:fn.body=some fbody) (hr:fn.results = #[])
  (hchk:(decide (cl.length+1≤fn.ntmps)&&decide (st.n≤d)&&(st.sl.all fun e=>e.1 != d)&&(cl.all fun x=>!x.has r0))=true)
  (hD:∀ x0,(flatHp (rfSt st r0 d x0 is).hp).all (fun e=>D.contains e.1)=true)
  (h:∀ x0:Go.Loop,x0.params=ps→x0.assign=assign→x0.body=body→x0.tmps.size=st.n→AW Fm P fbody (rfQ st fn.ntmps d r0 x0 Q) ((rfSt st r0 d x0 is).inner fn.ntmps (.c (.yv r0)::cl))) :
  AW Fm P (.rangeFunc g ps assign body) Q st:=by
 rintro ⟨m,rfl⟩ w0 S0 G a w hs
 simp only [Bool.and_eq_true,decide_eq_true_eq] at hchk
 obtain ⟨⟨⟨hn,hd⟩,hno⟩,hclr⟩:=hchk
 have hno:∀ e∈st.sl,e.1≠d:=fun e he=>by
  have:=List.all_eq_true.1 hno e he
  simpa using this
 refine wpIn_rangeFunc (F:=Fence.wide) (fun fid _=>?_)
 let x0:Go.Loop:={ state:=.ready,pending:=none,fn:=fid,tmps:=a.tmps,params:=ps,assign,body,defers:=w.heap.size }
 let l:=w.heap.size+1
 let yv:Value:=.func (.yield l) #[] #[]
 let w1:=w.alloc (.deferred (some []))
 let W1:=w1.alloc (.loop x0)
 have hw1:w1.heap.size=l:=World.size_alloc _ _
 have hW1:W1.heap.size=l+1:=by show (w1.alloc _).heap.size=_;rw [World.size_alloc,hw1]
 have hdf:w1.heap[w.heap.size]? = some (.deferred (some [])):=heap_push_new w _
 let a':Act:={ a with defers:=mark w.heap.size::a.defers }
 have s1:=hs.allocS (.deferred (some []))
 have s2:SR w0 S0 { G with S:=fun b=>G.S b∨b=w.heap.size } st a' w1:=by
  refine s1.marked (.inr rfl) hs.below_size hdf fun rs hrs hmem=>?_
  obtain ⟨rs',k1,_,k3⟩:=hs.df
  have:rs=rs':=mark_inj (hrs.symm.trans k1)
  subst this
  have:=(k3 _ hmem).2.2
  have:=(Array.getElem?_eq_some_iff.1 this).1
  omega
 have s3:=s2.alloc r0 (.loop x0) yv
 rw [hw1] at s3
 obtain ⟨G3,hG3⟩:∃ G3,({ G with S:=fun b=>G.S b∨b=w.heap.size } : Ghost).new r0 l yv=G3:=⟨_,rfl⟩
 rw [hG3] at s3
 have hrho:G3.rho r0=yv:=by rw [←hG3];simp [Ghost.new]
 have hcol:G3.col l=some r0:=by rw [←hG3];simp [Ghost.new]
 have hl1:W1.heap[l]? = some (.loop x0):=by
  have:=heap_push_new w1 (.loop x0)
  rwa [hw1] at this
 have hno1:∀ e∈(st.purge r0).sl,e.1≠d:=fun e he=>hno e (by simp only [St.purge,List.mem_filter] at he;exact he.1)
 have hlp:ConRep W1 G3 r0 (.lp x0 0 (recSl (st.purge r0).sl st.n is)):=by
  refine ⟨l,hrho,hcol,hl1,fun e he=>?_⟩
  obtain ⟨k1,k2⟩:=mem_recSl he
  have k3:=(s3.sl _ k1).2.1 holds_nil
  rw [slotV_in (by rw [s3.size];exact k2)] at k3
  exact k3
 have s4:=(s3.own (r:=r0) (p:=[]) (c:=.lp x0 0 (recSl (st.purge r0).sl st.n is)) (fun _=>hlp)).outerSlot (d:=d) (x:=.v (.c (.yv r0))) (v:=yv) hd hno1 ⟨hrho.symm,l,rfl⟩
 have s4:SR w0 { S0 with outer:=fun j=>if j=d then yv else S0.outer j } G3 (rfSt st r0 d x0 is) a' W1:=s4
 obtain ⟨cvs,hgv,hcv⟩:=rf_value hs hg
 have hk0:∀ b,G.S b→G3.S b∧W1.heap[b]? = w.heap[b]?:=fun b hb=>by
  have h1:=(hs.sub b hb).1
  refine ⟨by rw [←hG3];exact .inl hb,?_⟩
  show (w1.alloc _).heap[b]? = _
  rw [heap_push_old w1 _ (by rw [hw1];omega),heap_push_old w _ h1]
 have hr0:∀ q,q≠r0→G3.rho q=G.rho q:=fun q hq=>by rw [←hG3];simp [Ghost.new,hq]
 have hcv1:All2 (V1Rep W1 G3) (.c (.yv r0)::cl) (yv::cvs):=by
  refine ⟨⟨hrho.symm,l,rfl⟩,All2.imp (fun x hx v hv=>V1Rep.keep hk0 (fun q hq=>hr0 q (fun e=>?_)) hv) hcv⟩
  subst e
  have:=List.all_eq_true.1 hclr x hx
  rw [hq] at this
  cases this
 have hgv':a.eval g=.func (.func f) #[] cvs.toArray:=hgv
 refine ⟨l,[mark w.heap.size],W1,{ target:=.fn (.func f) cvs.toArray,args:=#[yv] },W1,f,#[yv]++cvs.toArray,W1,?_,?_,fun _ _=>trivial,?_,fun hh=>(by cases hh),?_⟩
 ·exact run_enterLoop_outer fid a.tmps ps assign body
 ·simp only [resolve,hgv']
  simp [go_sem,yv]
 ·simp only [invoke,Sem.run_bind,Sem.run_pure,Result.andThen_ok]
  exact hf _ _
 ·refine callsIn_wide.2 ?_
  have hargs : #[yv]++cvs.toArray=(yv::cvs).toArray:=by simp
  rw [hargs]
  have hs1:=s4.innerB (fn:=fn) (args:=.c (.yv r0)::cl) (vs:=yv::cvs) (D:=D) (hD x0) hcv1.length (by simpa using hn) hcv1
  have hbody:=h x0 rfl rfl rfl hs.size
  refine calls_of_body hfn hb (hbody ⟨none,rfl⟩ W1 _ _ _ W1 hs1) ?_
  have fin:∀ (st':St) (G1:Ghost) (a1:Act) (w':World),SR W1 (innerBase { S0 with outer:=fun j=>if j=d then yv else S0.outer j } G3 D a' fn.ntmps) G1 st' a1 w' →
    (∃ k sl,st'.n=fn.ntmps∧lk st'.hp r0=some ([],.lp x0 k sl)∧lk st'.sl (fn.ntmps+d)=some ([],.v (.c (.yv r0))) ∧
     (k=0→Q .n (rfBack st fn.ntmps d r0 st'))∧(k≠0→k=1→Q .r (rfBack st fn.ntmps d r0 st'))∧(k≠0→k≠1→∃ id:Nat,(k-2).toNat=id∧Q (.x id) (rfBack st fn.ntmps d r0 st'))) →
    ∃ ms:List Nat,a1.defers=ms.map mark∧ms.Nodup∧(∀ r∈ms,w'.heap[r]? = some (.deferred (some [])))∧∃ v,(results fn a1.tmps).run P (shutAll ms w')=.ok v (shutAll ms w') ∧
     rangePost Fence.wide 0 P l (QC w0 S0 Q) a' (.returned v) (shutAll ms w'):=by
   rintro st' G1 a1 w' h0 ⟨k,sl,hn1,hlk,hslk,hQ⟩
   obtain ⟨ms,m1,m2,m3,h1⟩:=h0.shut
   have hres:=run_results (P:=P) (fn:=fn) (rs:=[]) (by rw [hr];rfl) a1.tmps (shutAll ms w') (us:=[]) trivial
   refine ⟨ms,m1,m2,m3,_,hres,?_⟩
   generalize hw2:shutAll ms w'=w2 at h1 ⊢
   generalize hG2:G1.less (·∈ms)=G2 at h1
   obtain ⟨l2,e1,e2,e3,_⟩:=h1.hp _ (lk_mem hlk) holds_nil
   have hrho2:G2.rho r0=yv:=by
    have h2:=(h1.sl _ (lk_mem hslk)).2.1 holds_nil
    have h3:slotV (innerBase { S0 with outer:=fun j=>if j=d then yv else S0.outer j } G3 D a' fn.ntmps) { tmps:=a1.tmps,defers:=[] } (fn.ntmps+d)=yv:=by
     unfold slotV
     rw [if_neg (by rw [h1.size,hn1];omega)]
     show slotV { S0 with outer:=fun j=>if j=d then yv else S0.outer j } a' (fn.ntmps+d-fn.ntmps)=yv
     rw [show fn.ntmps+d-fn.ntmps=d by omega]
     unfold slotV
     rw [if_neg (by rw [show a'.tmps.size=st.n from hs.size];omega)]
     show (if d=d then yv else _)=yv
     rw [if_pos rfl]
    have h4:=h2.1
    simp only [h3] at h4
    exact h4.symm
   have hl2:l2=l:=by
    have e1':G2.rho r0=.func (.yield l2) #[] #[]:=e1
    rw [hrho2] at e1'
    have:(Value.func (.yield l) #[] #[])=.func (.yield l2) #[] #[]:=e1'
    injection this with e1'
    injection e1' with e1'
    exact e1'.symm
   rw [hl2] at e1 e2 e3
   clear hl2
   have h5:=s4.backB0 (d:=d) h1 hn1
   have h6:SR w0 S0 { G2 with S:=fun b=>G2.S b∨G3.S b } (rfBack st fn.ntmps d r0 st') a' w2:=by
    refine (SR.noOuter (h5.purge r0) fun e he=>?_)
    have he':=he
    unfold rfBack at he'
    simp only [St.purge,List.mem_filter] at he'
    exact (mem_inSl he'.1).2.1
   have hlS:¬(G2.S l∨G3.S l):=((h5.colr l r0 e2).2.2)
   have h7:=h6.putObj (l:=l) (o:=.loop { recAt x0 k with state:=.exhausted }) (.inl (by have:=hs.below_size;show w0.heap.size≤w.heap.size+1;omega)) hlS (fun e he hc=>by
    have:=purge_hp he
    rw [show ({ G2 with S:=fun b=>G2.S b∨G3.S b } : Ghost).col l=some r0 from e2] at hc
    injection hc with hc
    exact this.1 hc.symm)
   have hne:(recAt x0 k).state≠.busy:=by
    show (if k=0 then LoopState.ready else LoopState.done)≠.busy
    split <;> simp
   refine ⟨jumpOf k,_,run_endLoop e3 hne,?_⟩
   by_cases hk0:k=0
   ·subst hk0
    exact ⟨_,_,h7,hQ.1 rfl⟩
   ·by_cases hk1:k=1
    ·subst hk1
     exact wpIn_ret ⟨_,_,h7,hQ.2.1 (by decide) rfl⟩
    ·have hj:jumpOf k=some (.exit (k-2).toNat):=by unfold jumpOf;rw [if_neg hk0,if_neg hk1]
     rw [hj]
     obtain ⟨id,e5,hq5⟩:=hQ.2.2 hk0 hk1
     rw [e5]
     exact wpIn_exit ⟨_,_,h7,hq5⟩
  intro e a1 w' hq
  cases e with
  | normal=>obtain ⟨G1,st',h1,hq1⟩:=hq;exact ⟨.inl rfl,fin st' G1 a1 w' h1 hq1⟩
  | ret=>obtain ⟨G1,st',h1,hq1⟩:=hq;exact ⟨.inr rfl,fin st' G1 a1 w' h1 hq1⟩
  | exit id=>obtain ⟨G1,st',h1,hq1⟩:=hq;exact hq1.elim
  | goto l=>exact hq.elim
  | panic ch=>exact hq.elim
  | outgrown=>exact hq.elim
def convQ (Q:XE→St→Prop):XE→St→Prop:=fun e s=>∃ ds s',conv ds s=some s'∧Q e s'
theorem aw_cq {c:Code} {Q:XE→St→Prop} (h:AW M P c (convQ Q) st):AW M P c Q st:=by
 intro m w0 S0 G a w hs
 refine Go.wpIn_mono (h m w0 S0 G a w hs) ?_
 intro e a' w' hq
 cases e with
 | normal=>obtain ⟨G1,st1,hs1,ds,s',hc,hq1⟩:=hq;obtain ⟨G2,hs2⟩:=hs1.conv_ hc;exact ⟨G2,s',hs2,hq1⟩
 | exit id=>obtain ⟨G1,st1,hs1,ds,s',hc,hq1⟩:=hq;obtain ⟨G2,hs2⟩:=hs1.conv_ hc;exact ⟨G2,s',hs2,hq1⟩
 | ret=>obtain ⟨G1,st1,hs1,ds,s',hc,hq1⟩:=hq;obtain ⟨G2,hs2⟩:=hs1.conv_ hc;exact ⟨G2,s',hs2,hq1⟩
 | goto l=>exact hq.elim
 | panic ch=>exact hq.elim
 | outgrown=>exact hq.elim
theorem cq {Q:XE→St→Prop} {e:XE} {s s':St} (ds:List Dir) (hc:conv ds s=some s') (h:Q e s'):convQ Q e s:=⟨ds,s',hc,h⟩
theorem asgQ_n {K:St→Prop} {s:St} (h:K s):asgQ K .n s:=h
section
variable {σ τ:Type} {H:σ→Hp} {H':τ→Hp} {K0:σ→Prop} {K1:τ→Prop} {n r0:Nat} {x0:Go.Loop} {sl:List (Nat×AV)} {D D' B':List Nat} {st':St}
theorem yret_n (y:σ) (h:(decide (st'.n=n)&&hasBox st'.sl n B'&&okHp D' (pick st'.hp D')&&okHp D (pick st'.hp D'))=true) (h5:(r0,[],.lp x0 0 sl)::pick st'.hp D'=H y) (hk:K0 y) :
  yretQ n r0 x0 sl D D' B' (fun av hp'=>(∃ y,av=.v (.c (.p .bool true))∧hp'=H y∧K0 y)∨(∃ y,av=.v (.c (.p .bool false))∧hp'=H' y∧K1 y)) .n st':=by
 simp only [Bool.and_eq_true,decide_eq_true_eq] at h
 exact ⟨⟨h.1.1.1,h.1.1.2,h.1.2,h.2⟩,.inl ⟨y,rfl,h5,hk⟩⟩
theorem yret_r (y:τ) (h:(decide (st'.n=n)&&hasBox st'.sl n B'&&okHp D' (pick st'.hp D')&&okHp D (pick st'.hp D'))=true) (h5:(r0,[],.lp x0 1 sl)::pick st'.hp D'=H' y) (hk:K1 y) :
  yretQ n r0 x0 sl D D' B' (fun av hp'=>(∃ y,av=.v (.c (.p .bool true))∧hp'=H y∧K0 y)∨(∃ y,av=.v (.c (.p .bool false))∧hp'=H' y∧K1 y)) .r st':=by
 simp only [Bool.and_eq_true,decide_eq_true_eq] at h
 exact ⟨⟨h.1.1.1,h.1.1.2,h.1.2,h.2⟩,.inr ⟨y,rfl,h5,hk⟩⟩
theorem yret_x {id:Nat} (y:τ) (h:(decide (st'.n=n)&&hasBox st'.sl n B'&&okHp D' (pick st'.hp D')&&okHp D (pick st'.hp D'))=true) (h5:(r0,[],.lp x0 (2+(id:Int)) sl)::pick st'.hp D'=H' y) (hk:K1 y) :
  yretQ n r0 x0 sl D D' B' (fun av hp'=>(∃ y,av=.v (.c (.p .bool true))∧hp'=H y∧K0 y)∨(∃ y,av=.v (.c (.p .bool false))∧hp'=H' y∧K1 y)) (.x id) st':=by
 simp only [Bool.and_eq_true,decide_eq_true_eq] at h
 exact ⟨⟨h.1.1.1,h.1.1.2,h.1.2,h.2⟩,.inr ⟨y,rfl,h5,hk⟩⟩
end
def ycallChk (st:St) (o:Oper) (D:List Nat):Option (Nat×Nat×List V1×Hp) :=
 match o.guard,o.dst,o.op with
 | none,some d,.call c=>if decide (d<st.n)&&okHp D (pick st.hp D) then match yldCallee st c,inlArgs st c.args.toList with
  | some r0,some l=>some (d,r0,l,pick st.hp D)
  | _,_=>none
  else none
 | _,_,_=>none
theorem ycallChk_spec {o:Oper} {D:List Nat} {d r0:Nat} {l:List V1} {hp0:Hp} (h:ycallChk st o D=some (d,r0,l,hp0)) :
  ∃ c,o.guard=none∧o.dst=some d∧decide (d<st.n)=true∧o.op=.call c∧yldCallee st c=some r0∧inlArgs st c.args.toList=some l∧pick st.hp D=hp0∧okHp D hp0=true:=by
 unfold ycallChk at h
 split at h
 ·rename_i d' c hg hd ho
  split at h
  ·rename_i hk
   simp only [Bool.and_eq_true] at hk
   split at h
   ·rename_i r l' hc ha
    injection h with h;injection h with e1 h;injection h with e2 h;injection h with e3 e4
    subst e1 e2 e3 e4
    exact ⟨c,hg,hd,hk.1,ho,hc,ha,rfl,hk.2⟩
   ·cases h
  ·cases h
 ·cases h
theorem dycq {σ τ:Type} {ops:Array Oper} {Q:XE→St→Prop} {i:Nat} {done T:List Nat} {o:Oper} {d r0:Nat} {B:List Nat} {l:List V1} {H:σ→Hp} {H':τ→Hp} {K0:σ→Prop} {K1:τ→Prop} {hp0:Hp} (D:List Nat) (S:σ→St) (S':τ→St)
  (hi:ops[i]? = some o) (hDT:(D.all fun q=>T.contains q)=true)
  (hc:ycallChk st o D=some (d,r0,l,hp0)) (hS:∀ y,(st.lentB D B d (.v (.c (.p .bool true))) (H y)).keep (S y).ks (S y).kh=S y) (hS':∀ y,(st.lentB D B d (.v (.c (.p .bool false))) (H' y)).keep (S' y).ks (S' y).kh=S' y)
  (hlc:LYCalls P r0 D B hp0 l (fun av hp'=>(∃ y,av=.v (.c (.p .bool true))∧hp'=H y∧K0 y)∨(∃ y,av=.v (.c (.p .bool false))∧hp'=H' y∧K1 y)))
  (h:∀ y,K0 y→AWD M P ops T (i::done) Q (S y)) (h':∀ y,K1 y→AWD M P ops T (i::done) Q (S' y)):ADOp M P ops T done i Q st:=by
 obtain ⟨c,k1,k2,k3,k4,k5,k6,k7,k8⟩:=ycallChk_spec hc
 exact adop_ycall D B l H H' K0 K1 hp0 _ _ hi hDT k1 k2 k3 k4 k5 k6 k7 k8 (fun _=>rfl) (fun _=>rfl) hlc (fun y hy=>awd_conv [.prune (S y).ks (S y).kh] rfl rfl (by have:=h y hy;rw [←hS y] at this;exact this))
  (fun y hy=>awd_conv [.prune (S' y).ks (S' y).kh] rfl rfl (by have:=h' y hy;rw [←hS' y] at this;exact this))
end
def unNil1 (t:Ty):V1→V1
 | .c .nils=>.c (.p (.sl t) ([]:List t.T))
 | x=>x
def unNil:List (Option Ty)→List V1→List V1
 | some t::ms,x::l=>unNil1 t x::unNil ms l
 | none::ms,x::l=>x::unNil ms l
 | _,l=>l
theorem unNil1_rep {w:World} {G:Ghost} {t:Ty} {x:V1} {v:Value} (h:V1Rep w G x v):V1Rep w G (unNil1 t x) v:=by
 cases x with
 | agg l=>exact h
 | c x =>
  cases x
  case nils =>
   have e:v=.slice none 0 0:=h
   subst e
   exact ⟨none,0,rfl,Nat.le_refl _,Nat.zero_le _,.inl rfl⟩
  all_goals exact h
theorem unNil_rep {w:World} {G:Ghost} : ∀ {ms:List (Option Ty)} {l:List V1} {vs:List Value},All2 (V1Rep w G) l vs→All2 (V1Rep w G) (unNil ms l) vs
 | [],_,_,h=>h
 | none::_,[],_,h=>h
 | some _::_,[],_,h=>h
 | none::ms,x::l,[],h=>h.elim
 | some t::ms,x::l,[],h=>h.elim
 | none::ms,x::l,v::vs,h=>⟨h.1,unNil_rep h.2⟩
 | some t::ms,x::l,v::vs,h=>⟨unNil1_rep h.1,unNil_rep h.2⟩
theorem lcalls_nil {P:Program} {f:FuncId} {D B:List Nat} {hp0:Hp} {l:List V1} {K:AV→Hp→Prop} (ms:List (Option Ty)) (h:LCalls P f D B hp0 (unNil ms l) K):LCalls P f D B hp0 l K :=
 fun w G vs h1 h2 h3 h4=>h w G vs h1 h2 h3 (unNil_rep h4)
end Dec
