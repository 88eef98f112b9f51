/-
A call walked in place, with any number of results.
-/
import Derived.Test.YtljlpmfmfcljaaaDecY
set_option linter.unusedSimpArgs false
set_option linter.unusedVariables false
namespace Dec
open Go Go.RowKit
variable {M:Md→Prop}
def getAllR (P:Program) (st:St):List RV→Option (Prop×List V1)
 | []=>some (True,[])
 | r::rs=>match RV.val P st r,getAllR P st rs with
  | some (ob,.v x),some (ob',l)=>some (ob∧ob',x::l)
  | _,_=>none
def inlAv (P:Program) (st:St):List RV→Option (Prop×AV)
 | [r]=>RV.val P st r
 | rs=>match getAllR P st rs with
  | some (ob,l)=>some (ob,.tup l)
  | none=>none
section
variable {P:Program} {w0 w:World} {S0:Base} {G:Ghost} {st:St} {a:Act} {ops:Array Oper} {Q:XE→St→Prop} {D:List Nat}
theorem getAllR_rep (h:SR w0 S0 G st a w):∀ {rs:List RV} {ob:Prop} {l:List V1},getAllR P st rs=some (ob,l)→ob→∃ us,All2 (V1Rep w G) l us∧All2 (RVal P a.tmps w) rs us
 | [],ob,l,e,_=>by simp only [getAllR] at e;injection e with e;injection e with e1 e2;subst e2;exact ⟨[],trivial,trivial⟩
 | r::rs,ob,l,e,hob=>by
  simp only [getAllR] at e
  split at e
  ·rename_i ob1 x ob2 l' h1 h2
   injection e with e
   injection e with e1 e2
   subst e1 e2
   obtain ⟨us,k1,k2⟩:=getAllR_rep h h2 hob.2
   obtain ⟨u,q1,q2⟩:=RV.val_rep h h1 hob.1
   exact ⟨u::us,⟨q2,k1⟩,⟨q1,k2⟩⟩
  ·cases e
theorem inlAv_rep (h:SR w0 S0 G st a w) {rs:List RV} {ob:Prop} {av:AV} (e:inlAv P st rs=some (ob,av)) (hob:ob):∃ us,All2 (RVal P a.tmps w) rs us∧AVRep w G av (retVal us):=by
 match rs,e with
 | [],e =>
  simp only [inlAv,getAllR] at e
  injection e with e;injection e with e1 e2;subst e2
  exact ⟨[],trivial,⟨[],rfl,trivial⟩⟩
 | [r],e =>
  obtain ⟨u,q1,q2⟩:=RV.val_rep h e hob
  exact ⟨[u],⟨q1,trivial⟩,q2⟩
 | r1::r2::rs,e =>
  simp only [inlAv] at e
  split at e
  ·rename_i ob' l hl
   injection e with e
   injection e with e1 e2
   subst e1 e2
   obtain ⟨us,k1,k2⟩:=getAllR_rep h hl hob
   match us,k1,k2 with
   | u1::u2::us,k1,k2=>exact ⟨_,k2,⟨_,rfl,k1⟩⟩
  ·cases e
def inlR (P:Program) (st0:St) (m d:Nat) (rs:List RV) (K:St→Prop):XE→St→Prop
 | .x _,_=>False
 | _,st'=>∃ ob av,inlAv P st' rs=some (ob,av)∧ob∧st'.n=m∧K (st0.back m d st' av)
theorem inlR_r {st0:St} {m d:Nat} {rs:List RV} {K:St→Prop} {st':St} {ob:Prop} (av:AV) (h1:inlAv P st' rs=some (ob,av)) (hob:ob) (h2:st'.n=m) (h:K (st0.back m d st' av)):inlR P st0 m d rs K .r st':=⟨ob,av,h1,hob,h2,h⟩
theorem inlR_n {st0:St} {m d:Nat} {rs:List RV} {K:St→Prop} {st':St} {ob:Prop} (av:AV) (h1:inlAv P st' rs=some (ob,av)) (hob:ob) (h2:st'.n=m) (h:K (st0.back m d st' av)):inlR P st0 m d rs K .n st':=⟨ob,av,h1,hob,h2,h⟩
theorem withJoinR {σ:Type} {c:Code} {st0 st1:St} {m d:Nat} {rs:List RV} {K:St→Prop} (J:σ→St) (k:σ→Prop) (hrest:∀ s,k s→inlR P st0 m d rs K .n (J s)) (h:(∀ s,k s→inlR P st0 m d rs K .r (J s))→AW M P c (inlR P st0 m d rs K) st1):AW M P c (inlR P st0 m d rs K) st1:=h hrest
theorem inlr_calls {l:List V1} {vs:List Value} {f:FuncId} {fn:Func} {body:Code} {d:Nat} {rs:List RV} {K:St→Prop} (hs:SR w0 S0 G st a w) (hdn:d<st.n) (hD:(flatHp st.hp).all (fun e=>D.contains e.1)=true)
  (hfn:P.funcs[f]? = some fn) (hb:fn.body=some body) (hr:fn.results=(rs.map RV.toVar).toArray) (hn:l.length≤fn.ntmps) (hl:All2 (V1Rep w G) l vs) (h:AW Fm P body (inlR P st fn.ntmps d rs K) (st.inner fn.ntmps l)) :
  Calls P f vs.toArray w fun e w'=>∃ v G' st2,e=.returned v∧Mv D G w G' w'∧SR w0 S0 G' st2 (a.put (some d) v) w'∧K st2:=by
 have hlen:=hl.length
 have hs1:=hs.innerB (fn:=fn) hD hlen hn hl
 have fin:∀ (st':St) (G1:Ghost) (a1:Act) (w':World),SR w (innerBase S0 G D a fn.ntmps) G1 st' a1 w'→(∃ ob av,inlAv P st' rs=some (ob,av)∧ob∧st'.n=fn.ntmps∧K (st.back fn.ntmps d st' av)) →
   ∃ ms:List Nat,a1.defers=ms.map mark∧ms.Nodup∧(∀ r∈ms,w'.heap[r]? = some (.deferred (some [])))∧∃ v,(results fn a1.tmps).run P (shutAll ms w')=.ok v (shutAll ms w') ∧
    ∃ v' G' st2,Ending.returned v=.returned v'∧Mv D G w G' (shutAll ms w')∧SR w0 S0 G' st2 (a.put (some d) v') (shutAll ms w')∧K st2:=by
  rintro st' G1 a1 w' h0 ⟨ob,av,hav,hob,hn1,hK⟩
  obtain ⟨ms,m1,m2,m3,h1⟩:=h0.shut
  obtain ⟨us,hus,hv⟩:=inlAv_rep (P:=P) h1 hav hob
  obtain ⟨G2,h2,h3⟩:=hs.backB (d:=d) h1 hn1 hdn hv
  exact ⟨ms,m1,m2,m3,_,run_results hr a1.tmps _ hus,_,G2,_,rfl,h2,h3,hK⟩
 refine calls_of_body hfn hb (h ⟨none,rfl⟩ w _ _ _ w hs1) ?_
 intro e a1 w' hq
 cases e with
 | normal=>obtain ⟨G1,st',h1,hq1⟩:=hq;exact ⟨.inl rfl,fin st' G1 a1 w' h1 hq1⟩
 | ret=>obtain ⟨G1,st',h1,hq1⟩:=hq;exact ⟨.inr rfl,fin st' G1 a1 w' h1 hq1⟩
 | exit id=>obtain ⟨G1,st',h1,hq1⟩:=hq;exact hq1.elim
 | goto l=>exact hq.elim
 | panic ch=>exact hq.elim
 | outgrown=>exact hq.elim
theorem awl_inlr {o:Oper} {rest:List Oper} {c:Call} {d:Nat} {f:FuncId} {fn:Func} {body:Code} (rs:List RV) (D:List Nat) (l cl:List V1) (hg:o.guard=none) (hd:o.dst=some d) (hdn:decide (d<st.n)=true)
  (ho:o.op=.call c) (hcal:inlCallee st c=some (f,cl)) (hf:FnOk P f) (hargs:inlArgs st c.args.toList=some l) (hD:(flatHp st.hp).all (fun e=>D.contains e.1)=true)
  (hfn:P.funcs[f]? = some fn) (hb:fn.body=some body) (hr:fn.results=(rs.map RV.toVar).toArray) (hn:decide ((l++cl).length≤fn.ntmps)=true)
  (h:AW Fm P body (inlR P st fn.ntmps d rs (AWL M P ops rest Q)) (st.inner fn.ntmps (l++cl))):AWL M P ops (o::rest) Q st:=by
 intro m w0 S0 G a w hs
 simp only [decide_eq_true_eq] at hdn hn
 have hw:Region.wanted o (yielded ops a.tmps)=true:=by simp [Region.wanted,hg]
 refine lwp_step fun K hK=>?_
 rw [if_pos hw]
 obtain ⟨vs,hen,hr2⟩:=inl_enter hs ho hcal hf hargs
 refine upon_enter' hen ?_
 refine (inlr_calls hs hdn hD hfn hb hr hn hr2 h).mono ?_
 rintro e w' ⟨v,G',st2,rfl,_,hs2,h2⟩
 simp only [hd]
 exact hK _ _ (h2 _ _ _ _ _ _ hs2)
theorem adop_inlr {i:Nat} {o:Oper} {done:List Nat} {c:Call} {d:Nat} {f:FuncId} {fn:Func} {body:Code} (rs:List RV) (l cl:List V1) (hi:ops[i]? = some o) (hg:o.guard=none) (hd:o.dst=some d) (hdn:decide (d<st.n)=true)
  (ho:o.op=.call c) (hcal:inlCallee st c=some (f,cl)) (hf:FnOk P f) (hargs:inlArgs st c.args.toList=some l) (hD:(flatHp st.hp).all (fun e=>D.contains e.1)=true)
  (hfn:P.funcs[f]? = some fn) (hb:fn.body=some body) (hr:fn.results=(rs.map RV.toVar).toArray) (hn:decide ((l++cl).length≤fn.ntmps)=true)
  (h:AW Fm P body (inlR P st fn.ntmps d rs (AWD M P ops D (i::done) Q)) (st.inner fn.ntmps (l++cl))):ADOp M P ops D done i Q st:=by
 intro m w0 S0 G a w hs
 simp only [decide_eq_true_eq] at hdn hn
 unfold owp wpOpIn
 simp only [hi]
 have hw:Region.wanted o (yielded ops a.tmps)=true:=by simp [Region.wanted,hg]
 rw [if_pos hw]
 obtain ⟨vs,hen,hr2⟩:=inl_enter hs ho hcal hf hargs
 refine upon_enter' hen ?_
 refine (inlr_calls hs hdn hD hfn hb hr hn hr2 h).mono ?_
 rintro e w' ⟨v,G',st2,rfl,hmv,hs2,h2⟩
 simp only [hd]
 have hT':∀ q∈D,q∈D:=fun q hq=>hq
 exact ⟨Nx.of_mv hT' hmv,awpH_weaken (fun w2 h7=>Nx.step hT' hmv h7) _ _ _ _ (h2 _ _ _ _ _ _ hs2)⟩
/-! the same under a guard -/
end
end Dec
