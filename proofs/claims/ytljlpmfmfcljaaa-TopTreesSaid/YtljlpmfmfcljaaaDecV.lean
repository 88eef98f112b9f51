/-
A law's end: it gave true, the arguments read as they read. Is a slice nil? (What is asked of an address: its answer is left open, but for this: a nil slice is empty.) A slice that is an argument has as many elements as its reading.
-/
import Derived.Test.YtljlpmfmfcljaaaDecR
import Derived.ProofKit
import Derived.Laws.Cover3
set_option linter.unusedSimpArgs false
set_option linter.unusedVariables false
namespace Dec
open Go Go.RowKit Go.Deep Go.ChangeShapes Go.WideShapes
section
variable {H:Type} {enc:TypeId×Value→H} {P:Program} {W W':World}
def rowed (P:Program) (ts:List TypeId):Bool:=ts.all fun t=>P.readableRec t&&decide (t<P.types.size)
theorem stays_all (hl:laidOutB P=true) (hb:Below W.heap.size W W') {sp:Nat→Bool} : ∀ {ts:List TypeId} {vs:List Value} {ds:List (DataW H)} {ps:List MemPlace},rowed P ts=true →
  DataW.TrodAll enc P W 0 (fun _=>true) true ts vs ds ps→(∀ p∈ps,p.block<W.heap.size)→(∀ p∈ps,sp p.block=true)→DataW.TrodAll enc P W' 0 sp true ts vs ds ps
 | [],[],[],_,_,h,_,_=>h
 | [],_::_,_,_,_,h,_,_=>h.elim
 | [],[],_::_,_,_,h,_,_=>h.elim
 | _::_,[],_,_,_,h,_,_=>h.elim
 | _::_,_::_,[],_,_,h,_,_=>h.elim
 | t::ts,v::vs,d::ds,ps,hr,⟨p,q,h1,h2,e⟩,hlt,hsp=>by
  simp only [rowed,List.all_cons,Bool.and_eq_true,decide_eq_true_eq] at hr
  subst e
  refine ⟨p,q,WideElems.Trod_stays hl hr.1.1 hr.1.2 h1 (fun x hx=>hb.same (hlt x (by simp [hx]))) (fun x hx=>hsp x (by simp [hx])),?_,rfl⟩
  exact stays_all hl hb hr.2 h2 (fun x hx=>hlt x (by simp [hx])) (fun x hx=>hsp x (by simp [hx]))
theorem post_true {f:Func} {s:ChangeSpec} {args:Array Value} {ds:List (DataW H)} {before:List MemPlace} {tb:TypeId}
  (hW:DataW.Whole enc P f.params.toList s.vars false W args.toList ds [] before) (hvars:s.vars=[]) (hl:laidOutB P=true) (hrow:rowed P f.params.toList=true) (hbel:Bel W.heap.size W W')
  (hres:(s.fn H (ds++[])).results=[.lit (.bool true)]) (hargs:(s.fn H (ds++[])).args=ds) (hv:(s.fn H (ds++[])).vars=[]) (hr:f.resultTypes = #[tb]) (htb:P.underlying tb=some .bool) :
  s.post enc P f false true false false W args (.bool true) W':=by
 have hb:=hbel.below
 have hlt:=hW.lt
 have hW':=hW
 obtain ⟨p,q,hA,hV,rfl,hz,hn⟩:=hW
 rw [hvars] at hV
 have hq:q=[]:=by simpa [DataW.TrodVars] using hV
 subst hq
 simp only [List.append_nil] at *
 have hA':∀ sp:Nat→Bool,(∀ x∈p,sp x.block=true)→DataW.TrodAll enc P W' 0 sp true f.params.toList args.toList (s.fn H ds).args p:=by
  intro sp hsp
  rw [hargs]
  exact stays_all hl hb hrow hA hlt hsp
 have hV':∀ sp:Nat→Bool,DataW.TrodVars enc P W' sp s.vars (s.fn H ds).vars []:=by
  intro sp
  rw [hvars,hv]
  rfl
 have hR:∀ (b:Nat) (sp:Nat→Bool) (hd:Bool),DataW.TrodAll enc P W' b sp hd f.resultTypes.toList ((Value.bool true).resultList f.resultTypes.size) (s.fn H ds).results []:=by
  intro b sp hd
  rw [hres,hr]
  exact trodAll_mk1 (shut_bool htb true)
 have hok:∀ (j:Nat) (t:TypeId) (r:Value),f.resultTypes[j]? = some t→((Value.bool true).resultList f.resultTypes.size)[j]? = some r→Value.okWide P W' .any 0 t r:=ok_one hr rfl (okWide_bool_mk htb true)
 have hold:∀ x∈p,(fun b=>decide (b<W.heap.size)) x.block=true:=fun x hx=>by simpa using hlt x hx
 refine ⟨ds,[],p,[],p,[],hW',by simpa using hR _ _ _,by simpa using hA' _ hold,by simpa using hV' _,World.keptBut_mono (fun x hx=>⟨hx,?_⟩) (hb.frame (·∈p)),fun hx=>by cases hx⟩
 exact Or.inr (Or.inl hx)
end
end Dec
namespace Dec
open Go Go.RowKit
variable {M:Md→Prop}
section
variable {P:Program} {st:St} {ops:Array Oper} {Q:XE→St→Prop}
theorem nil_rep {w:World} {S:Nat→Prop} {u:Ty} {l:List u.T} {v:Value} (h:Enc w S (.sl u) l [v]):∃ a n c,v=.slice a n c∧(a.isNone=true→l=[]):=by
 obtain ⟨a,c,e,_,_,hr⟩:=h
 injection e with e _
 refine ⟨a,_,c,e,fun ha=>?_⟩
 rcases hr with rfl | ⟨b,off,cells,ty,fz,xs,rfl,_⟩
 ·rfl
 ·simp at ha
theorem elemOf_underlying {t e:TypeId} (h:elemOf P t=some e):P.underlying t=some (.slice e):=by
 unfold elemOf at h
 split at h
 ·rename_i e' he;injection h with h;subst h;exact he
 ·cases h
theorem awl_nil_eql {o:Oper} {rest:List Oper} {d:Nat} {t t':TypeId} {x:Operand} {u:Ty} {l:List u.T} {e:TypeId} (sl hp:List Nat) (S:Bool→St) (hg:o.guard=none) (hd:o.dst=some d) (hdn:decide (d<st.n)=true)
  (ho:o.op=.binOp .eql t x (.const (.slice none 0 0)) t') (hu:elemOf P t=some e) (hx:st.val [] x=some (.v (.c (.p (.sl u) l)))) (hS:∀ b,(st.put d [] (.v (.c (.p .bool b)))).keep sl hp=S b)
  (h:∀ b:Bool,(b=true→l=[])→AWL M P ops rest Q (S b)):AWL M P ops (o::rest) Q st:=by
 intro m w0 S0 G a w hs
 have hx':Enc w G.S (.sl u) l [a.eval x]:=hs.val_ holds_nil hx
 obtain ⟨ad,n,c,hv,hnil⟩:=nil_rep hx'
 have hnn:a.eval (.const (.slice none 0 0))=.slice none 0 0:=rfl
 refine wpl_val (.bool ad.isNone) hg hd ?_ ?_
 ·unfold execOp
  simp only [ho,hv,hnn]
  simp [eqGuard,binOp,Sem.run_bind,run_equal_slice_nil w t e ad n c (elemOf_underlying hu)]
 ·have hdn':d<st.n:=by simpa using hdn
  have h1:=hs.put (i:=d) (p:=[]) (x:=.v (.c (.p .bool ad.isNone))) (v:=.bool ad.isNone) hdn' rfl (fun _=>rfl) (fun hn=>absurd holds_nil hn)
  have h2:AWL M P ops rest Q (st.put d [] (.v (.c (.p .bool ad.isNone)))):=awl_conv [.prune sl hp] rfl (by have:=h _ hnil;rw [←hS] at this;exact this)
  exact h2 _ _ _ _ _ _ h1
end
end Dec
namespace Dec
open Go Go.RowKit Go.Deep Go.ChangeShapes Go.WideShapes
end Dec
