/-
A call walked in place, with any number of results.
-/
import Derived.Test.YtckghdhnmpnljaaDecY
set_option linter.unusedSimpArgs false
set_option linter.unusedVariables false
namespace Dec
open Go Go.RowKit
variable {M:Md→Prop}
def getAllR (P:Program) (st:St):List RV→Option (Prop×List V1)
 | []=>some (True,[])
 | r::rs=>match RV.val P st r,getAllR P st rs with
  | some (ob,.v x),some (ob',l)=>some (ob∧ob',x::l)
  | _,_=>none
def inlAv (P:Program) (st:St):List RV→Option (Prop×AV)
 | [r]=>RV.val P st r
 | rs=>match getAllR P st rs with
  | some (ob,l)=>some (ob,.tup l)
  | none=>none
section
variable {P:Program} {w0 w:World} {S0:Base} {G:Ghost} {st:St} {a:Act} {ops:Array Oper} {Q:XE→St→Prop} {D:List Nat}
theorem getAllR_rep (h:SR w0 S0 G st a w):∀ {rs:List RV} {ob:Prop} {l:List V1},getAllR P st rs=some (ob,l)→ob→∃ us,All2 (V1Rep w G) l us∧All2 (RVal P a.tmps w) rs us
 | [],ob,l,e,_=>by simp only [getAllR] at e;injection e with e;injection e with e1 e2;subst e2;exact ⟨[],trivial,trivial⟩
 | r::rs,ob,l,e,hob=>by
  simp only [getAllR] at e
  split at e
  ·rename_i ob1 x ob2 l' h1 h2
   injection e with e
   injection e with e1 e2
   subst e1 e2
   obtain ⟨us,k1,k2⟩:=getAllR_rep h h2 hob.2
   obtain ⟨u,q1,q2⟩:=RV.val_rep h h1 hob.1
   exact ⟨u::us,⟨q2,k1⟩,⟨q1,k2⟩⟩
  ·cases e
theorem inlAv_rep (h:SR w0 S0 G st a w) {rs:List RV} {ob:Prop} {av:AV} (e:inlAv P st rs=some (ob,av)) (hob:ob):∃ us,All2 (RVal P a.tmps w) rs us∧AVRep w G av (retVal us):=by
 match rs,e with
 | [],e =>
  simp only [inlAv,getAllR] at e
  injection e with e;injection e with e1 e2;subst e2
  exact ⟨[],trivial,⟨[],rfl,trivial⟩⟩
 | [r],e =>
  obtain ⟨u,q1,q2⟩:=RV.val_rep h e hob
  exact ⟨[u],⟨q1,trivial⟩,q2⟩
 | r1::r2::rs,e =>
  simp only [inlAv] at e
  split at e
  ·rename_i ob' l hl
   injection e with e
   injection e with e1 e2
   subst e1 e2
   obtain ⟨us,k1,k2⟩:=getAllR_rep h hl hob
   match us,k1,k2 with
   | u1::u2::us,k1,k2=>exact ⟨_,k2,⟨_,rfl,k1⟩⟩
  ·cases e
def inlR (P:Program) (st0:St) (m d:Nat) (rs:List RV) (K:St→Prop):XE→St→Prop
 | .x _,_=>False
 | _,st'=>∃ ob av,inlAv P st' rs=some (ob,av)∧ob∧st'.n=m∧K (st0.back m d st' av)
theorem inlR_r {st0:St} {m d:Nat} {rs:List RV} {K:St→Prop} {st':St} {ob:Prop} (av:AV) (h1:inlAv P st' rs=some (ob,av)) (hob:ob) (h2:st'.n=m) (h:K (st0.back m d st' av)):inlR P st0 m d rs K .r st':=⟨ob,av,h1,hob,h2,h⟩
theorem inlR_n {st0:St} {m d:Nat} {rs:List RV} {K:St→Prop} {st':St} {ob:Prop} (av:AV) (h1:inlAv P st' rs=some (ob,av)) (hob:ob) (h2:st'.n=m) (h:K (st0.back m d st' av)):inlR P st0 m d rs K .n st':=⟨ob,av,h1,hob,h2,h⟩
theorem inlr_calls {l:List V1} {vs:List Value} {f:FuncId} {fn:Func} {body:Code} {d:Nat} {rs:List RV} {K:St→Prop} (hs:SR w0 S0 G st a w) (hdn:d<st.n) (hD:(flatHp st.hp).all (fun e=>D.contains e.1)=true)
  (hfn:P.funcs[f]? = some fn) (hb:fn.body=some body) (hr:fn.results=(rs.map RV.toVar).toArray) (hn:l.length≤fn.ntmps) (hl:All2 (V1Rep w G) l vs) (h:AW Fm P body (inlR P st fn.ntmps d rs K) (st.inner fn.ntmps l)) :
  Calls P f vs.toArray w fun e w'=>∃ v G' st2,e=.returned v∧Mv D G w G' w'∧SR w0 S0 G' st2 (a.put (some d) v) w'∧K st2:=by
 have hlen:=hl.length
 have hs1:=hs.innerB (fn:=fn) hD hlen hn hl
 have fin:∀ (st':St) (G1:Ghost) (a1:Act) (w':World),SR w (innerBase S0 G D a fn.ntmps) G1 st' a1 w'→(∃ ob av,inlAv P st' rs=some (ob,av)∧ob∧st'.n=fn.ntmps∧K (st.back fn.ntmps d st' av)) →
   ∃ ms:List Nat,a1.defers=ms.map mark∧ms.Nodup∧(∀ r∈ms,w'.heap[r]? = some (.deferred (some [])))∧∃ v,(results fn a1.tmps).run P (shutAll ms w')=.ok v (shutAll ms w') ∧
    ∃ v' G' st2,Ending.returned v=.returned v'∧Mv D G w G' (shutAll ms w')∧SR w0 S0 G' st2 (a.put (some d) v') (shutAll ms w')∧K st2:=by
  rintro st' G1 a1 w' h0 ⟨ob,av,hav,hob,hn1,hK⟩
  obtain ⟨ms,m1,m2,m3,h1⟩:=h0.shut
  obtain ⟨us,hus,hv⟩:=inlAv_rep (P:=P) h1 hav hob
  obtain ⟨G2,h2,h3⟩:=hs.backB (d:=d) h1 hn1 hdn hv
  exact ⟨ms,m1,m2,m3,_,run_results hr a1.tmps _ hus,_,G2,_,rfl,h2,h3,hK⟩
 refine calls_of_body hfn hb (h ⟨none,rfl⟩ w _ _ _ w hs1) ?_
 intro e a1 w' hq
 cases e with
 | normal=>obtain ⟨G1,st',h1,hq1⟩:=hq;exact ⟨.inl rfl,fin st' G1 a1 w' h1 hq1⟩
 | ret=>obtain ⟨G1,st',h1,hq1⟩:=hq;exact ⟨.inr rfl,fin st' G1 a1 w' h1 hq1⟩
 | exit id=>obtain ⟨G1,st',h1,hq1⟩:=hq;exact hq1.elim
 | goto l=>exact hq.elim
 | panic ch=>exact hq.elim
 | outgrown=>exact hq.elim
theorem awl_inlr {o:Oper} {rest:List Oper} {c:Call} {d:Nat} {f:FuncId} {fn:Func} {body:Code} (rs:List RV) (D:List Nat) (l cl:List V1) (hg:o.guard=none) (hd:o.dst=some d) (hdn:decide (d<st.n)=true)
  (ho:o.op=.call c) (hcal:inlCallee st c=some (f,cl)) (hf:FnOk P f) (hargs:inlArgs st c.args.toList=some l) (hD:(flatHp st.hp).all (fun e=>D.contains e.1)=true)
  (hfn:P.funcs[f]? = some fn) (hb:fn.body=some body) (hr:fn.results=(rs.map RV.toVar).toArray) (hn:decide ((l++cl).length≤fn.ntmps)=true)
  (h:AW Fm P body (inlR P st fn.ntmps d rs (AWL M P ops rest Q)) (st.inner fn.ntmps (l++cl))):AWL M P ops (o::rest) Q st:=by
 intro m w0 S0 G a w hs
 simp only [decide_eq_true_eq] at hdn hn
 have hw:Region.wanted o (yielded ops a.tmps)=true:=by simp [Region.wanted,hg]
 refine lwp_step fun K hK=>?_
 rw [if_pos hw]
 obtain ⟨vs,hen,hr2⟩:=inl_enter hs ho hcal hf hargs
 refine upon_enter' hen ?_
 refine (inlr_calls hs hdn hD hfn hb hr hn hr2 h).mono ?_
 rintro e w' ⟨v,G',st2,rfl,_,hs2,h2⟩
 simp only [hd]
 exact hK _ _ (h2 _ _ _ _ _ _ hs2)
theorem adop_inlr {i:Nat} {o:Oper} {done:List Nat} {c:Call} {d:Nat} {f:FuncId} {fn:Func} {body:Code} (rs:List RV) (l cl:List V1) (hi:ops[i]? = some o) (hg:o.guard=none) (hd:o.dst=some d) (hdn:decide (d<st.n)=true)
  (ho:o.op=.call c) (hcal:inlCallee st c=some (f,cl)) (hf:FnOk P f) (hargs:inlArgs st c.args.toList=some l) (hD:(flatHp st.hp).all (fun e=>D.contains e.1)=true)
  (hfn:P.funcs[f]? = some fn) (hb:fn.body=some body) (hr:fn.results=(rs.map RV.toVar).toArray) (hn:decide ((l++cl).length≤fn.ntmps)=true)
  (h:AW Fm P body (inlR P st fn.ntmps d rs (AWD M P ops D (i::done) Q)) (st.inner fn.ntmps (l++cl))):ADOp M P ops D done i Q st:=by
 intro m w0 S0 G a w hs
 simp only [decide_eq_true_eq] at hdn hn
 unfold owp wpOpIn
 simp only [hi]
 have hw:Region.wanted o (yielded ops a.tmps)=true:=by simp [Region.wanted,hg]
 rw [if_pos hw]
 obtain ⟨vs,hen,hr2⟩:=inl_enter hs ho hcal hf hargs
 refine upon_enter' hen ?_
 refine (inlr_calls hs hdn hD hfn hb hr hn hr2 h).mono ?_
 rintro e w' ⟨v,G',st2,rfl,hmv,hs2,h2⟩
 simp only [hd]
 have hT':∀ q∈D,q∈D:=fun q hq=>hq
 exact ⟨Nx.of_mv hT' hmv,awpH_weaken (fun w2 h7=>Nx.step hT' hmv h7) _ _ _ _ (h2 _ _ _ _ _ _ hs2)⟩
/-! the same under a guard -/
def inlCalleeP (st:St) (p:Path) (c:Call):Option (FuncId×List V1) :=
 match c.callee with
 | .value (.func f)=>some (f,[])
 | .value (.tmp i)=>match st.get p i with
  | some (.v (.c (.fn f caps)))=>some (f,caps.map fun d=>.c (.ad d.1 d.2))
  | some (.v (.c (.cl f caps)))=>some (f,caps.map capV1)
  | _=>none
 | _=>none
def inlArgsP (st:St) (p:Path):List Operand→Option (List V1)
 | []=>some []
 | x::r=>match st.val p x,inlArgsP st p r with
  | some (.v y),some l=>some (y::l)
  | _,_=>none
theorem inlArgsP_rep {p:Path} (hs:SR w0 S0 G st a w) (hp:Holds a p):∀ {xs:List Operand} {l:List V1},inlArgsP st p xs=some l→All2 (V1Rep w G) l (xs.map a.eval)
 | [],l,h=>by simp only [inlArgsP] at h;injection h with h;subst h;trivial
 | x::r,l,h=>by
  simp only [inlArgsP] at h
  split at h
  ·rename_i y l' h1 h2
   injection h with h
   subst h
   exact ⟨hs.val_ hp h1,inlArgsP_rep hs hp h2⟩
  ·cases h
theorem inlP_enter {l cl:List V1} {f:FuncId} {c:Call} {o:Oper} {p:Path} (hs:SR w0 S0 G st a w) (hp:Holds a p) (ho:o.op=.call c) (hcal:inlCalleeP st p c=some (f,cl)) (hf:FnOk P f) (hargs:inlArgsP st p c.args.toList=some l) :
  ∃ vs:List Value,(execOp a.eval o).run P w=.ok (.enter f vs.toArray) w∧All2 (V1Rep w G) (l++cl) vs:=by
 have hr:=inlArgsP_rep hs hp hargs
 unfold inlCalleeP at hcal
 split at hcal
 ·rename_i g hc
  injection hcal with hcal;injection hcal with e1 e2;subst e1 e2
  refine ⟨c.args.toList.map a.eval,?_,by simpa using hr⟩
  unfold execOp
  simp only [ho,resolve,hc,Act.eval,Deferred.ofValue,invoke,Sem.run_bind,Sem.run_pure,Result.andThen_ok]
  rw [hf]
  congr 2
  apply Array.ext'
  simp
 ·rename_i i hc
  split at hcal
  ·rename_i g caps hget
   injection hcal with hcal;injection hcal with e1 e2;subst e1 e2
   obtain ⟨cvs,hv,hcv⟩:=hs.get_ hp hget
   refine ⟨c.args.toList.map a.eval++cvs,?_,hr.append (capsAd_v1 hcv)⟩
   unfold execOp
   simp only [ho,resolve,hc,Act.eval,hv,Deferred.ofValue,invoke,Sem.run_bind,Sem.run_pure,Result.andThen_ok]
   rw [hf]
   congr 2
   apply Array.ext'
   simp
  ·rename_i g caps hget
   injection hcal with hcal;injection hcal with e1 e2;subst e1 e2
   obtain ⟨cvs,hv,hcv⟩:=hs.get_ hp hget
   refine ⟨c.args.toList.map a.eval++cvs,?_,hr.append (caps_v1 hcv)⟩
   unfold execOp
   simp only [ho,resolve,hc,Act.eval,hv,Deferred.ofValue,invoke,Sem.run_bind,Sem.run_pure,Result.andThen_ok]
   rw [hf]
   congr 2
   apply Array.ext'
   simp
  ·cases hcal
 ·cases hcal
def St.given (st:St) (p:Path):St:=⟨st.n,st.sl.map (fun e=>if subP e.2.1 p then (e.1,[],e.2.2) else e),st.hp.map (fun e=>if subP e.2.1 p then (e.1,[],e.2.2) else e)⟩
theorem SR.given {p:Path} (h:SR w0 S0 G st a w) (hp:Holds a p):SR w0 S0 G (st.given p) a w:=by
 refine ⟨h.below,h.sub,h.colr,h.df,h.size,fun e he=>?_,fun e he hh=>?_⟩
 ·obtain ⟨e0,he0,rfl⟩:=List.mem_map.1 he
  have h0:=h.sl e0 he0
  split
  ·rename_i hs
   exact ⟨trivial,fun _=>h0.2.1 (holds_sub hs hp),fun hn=>absurd holds_nil hn⟩
  ·exact h0
 ·obtain ⟨e0,he0,rfl⟩:=List.mem_map.1 he
  split at hh
  ·rename_i hs
   rw [if_pos hs]
   exact h.hp e0 he0 (holds_sub hs hp)
  ·rename_i hs
   rw [if_neg hs]
   exact h.hp e0 he0 hh
theorem awl_inlg {o:Oper} {rest:List Oper} {c:Call} {d:Nat} {f:FuncId} {fn:Func} {body:Code} (rs:List RV) (D:List Nat) (p:Path) (l cl:List V1) (av:AV) (hg:guardPath ops st o.guard=some p) (hd:o.dst=some d)
  (hck:(decide (d<st.n)&&!onPath d p&&pathOk st [] p)=true)
  (ho:o.op=.call c) (hcal:inlCalleeP st p c=some (f,cl)) (hf:FnOk P f) (hargs:inlArgsP st p c.args.toList=some l) (hD:(flatHp (st.given p).hp).all (fun e=>D.contains e.1)=true)
  (hfn:P.funcs[f]? = some fn) (hb:fn.body=some body) (hr:fn.results=(rs.map RV.toVar).toArray) (hn:decide ((l++cl).length≤fn.ntmps)=true)
  (hT:pathB st [] p=true→AW Fm P body (inlR P (st.given p) fn.ntmps d rs (AWL M P ops rest Q)) ((st.given p).inner fn.ntmps (l++cl)))
  (hF:pathB st [] p=false→AWL M P ops rest Q (st.put d p av)):AWL M P ops (o::rest) Q st:=by
 intro m w0 S0 G a w hs
 simp only [Bool.and_eq_true,decide_eq_true_eq,Bool.not_eq_true'] at hck hn
 obtain ⟨⟨hdn,hp⟩,hok⟩:=hck
 have hw:=guard_wanted hg hs
 have hpb:=path_iff hs holds_nil hok
 refine lwp_step fun K hK=>?_
 by_cases hh:Holds a p
 ·rw [if_pos (hw.2 hh)]
  obtain ⟨vs,hen,hr2⟩:=inlP_enter hs hh ho hcal hf hargs
  refine upon_enter' hen ?_
  refine (inlr_calls (hs.given hh) hdn hD hfn hb hr hn hr2 (hT (hpb.1 hh))).mono ?_
  rintro e w' ⟨v,G',st2,rfl,_,hs2,h2⟩
  simp only [hd]
  exact hK _ _ (h2 _ _ _ _ _ _ hs2)
 ·rw [if_neg (fun e=>hh (hw.1 e)),hd]
  have hpf:pathB st [] p=false:=by
   cases hb:pathB st [] p with
   | false=>rfl
   | true=>exact absurd (hpb.2 hb) hh
  exact hK _ _ (hF hpf _ _ _ _ _ _ (hs.put hdn hp (fun h=>absurd h hh) (fun _=>rfl)))
end
end Dec
