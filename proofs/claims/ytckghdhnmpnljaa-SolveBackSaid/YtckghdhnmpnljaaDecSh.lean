/-
A row of numbers is copied into an array that stands in an own struct. Short words for what turns deep rows. append onto a view that begins inside a row of one's own (a queue): it goes on in place, or elsewhere; nobody knows which. copy onto a row of one's own, or onto a view of it: numbers. Short words whose checks come by themselves.
-/
import Derived.Test.YtckghdhnmpnljaaDecRh
import Derived.Laws.CopyRow
import Derived.Test.YtckghdhnmpnljaaDecAb
import Derived.Test.YtckghdhnmpnljaaDecDe
import Derived.ArgAppend
import Derived.Test.YtckghdhnmpnljaaDecP
set_option linter.unusedSimpArgs false
set_option linter.unusedVariables false
namespace Dec
open Go Go.RowKit
variable {M:Md→Prop}
section
variable {P:Program} {w0 w:World} {S0:Base} {G:Ghost} {st:St} {a:Act} {ops:Array Oper} {Q:XE→St→Prop}
theorem run_copy_any (dT sT ty elem:TypeId) (g o dLen dCap:Nat) (ad:Option Addr) (sLen sCap:Nat) (cur:Array Value) (t:TypeId) (cs:List Value) (hu:P.underlying dT=some (.slice elem)) (hs:(P.info? elem).map (·.size)=some 1)
  (hg:w.heap[g]? = some (.cells cur t (0,0))) (hn:cs.length=Nat.min sLen dLen) (hsrc:sLen=0∨∃ a1,ad=some a1∧∀ j v,cs[j]? = some v→w.cell? (a1.add j)=some v) (hfit:o+cs.length≤cur.size) (h1:∀ v∈cs,v.oneCell'=true) :
  (Builtin.copy_ #[dT,sT] ty #[.slice (some ⟨g,o,none⟩) dLen dCap,.slice ad sLen sCap]).run P w=.ok (goInt cs.length) (w.setRow g (cur.toList.take o++cs++cur.toList.drop (o+cs.length)).toArray):=by
 cases ad with
 | some a1 =>
  refine run_copy_row P w dT sT ty elem g o dLen dCap a1 sLen sCap cur t cs hu hs hg hn ?_ hfit h1
  rcases hsrc with h0 | ⟨a2,e,h⟩
  ·intro j v hj
   have:cs=[]:=List.eq_nil_of_length_eq_zero (by rw [hn,h0];simp)
   rw [this] at hj
   simp at hj
  ·injection e with e;subst e;exact h
 | none =>
  rcases hsrc with h0 | ⟨a2,e,h⟩
  ·subst h0
   have:cs=[]:=List.eq_nil_of_length_eq_zero (by rw [hn];simp)
   subst this
   cases hq:P.info? elem with
   | none=>simp [hq] at hs
   | some i =>
    simp only [List.append_nil,List.length_nil,Nat.add_zero,List.take_append_drop,Array.toArray_toList]
    rw [setRow_self w g cur t (0,0) hg]
    simp [Builtin.copy_,run_underlying hu,Builtin.lenOf,Builtin.firstCells,Go.sizeOf,typeInfo,hq,storeCells]
  ·cases e
end
end Dec
namespace Dec
open Go Go.RowKit
section
variable {M:Md→Prop} {P:Program} {st:St} {ops:Array Oper} {Q:XE→St→Prop} {D:List Nat}
abbrev Rec (D:List Nat) (C:List (Nat×Nat)):Bool:=C.all fun c=>!D.contains c.1||D.contains c.2
theorem lop {l:List Oper} (s q:Nat) (T:List Nat) {ob:Prop} {st':St} {C:List (Nat×Nat)} (h:st.openD s q T=some (ob,st',C)) (hob:ob) (hr:AWL M P ops l Q st'):AWL M P ops l Q st:=awl_turn (trn_open h hob) hr
theorem dop {done:List Nat} (s q:Nat) (T:List Nat) {ob:Prop} {st':St} {C:List (Nat×Nat)} (h:st.openD s q T=some (ob,st',C)) (hC:Rec D C=true) (hob:ob) (hr:AWD M P ops D done Q st'):AWD M P ops D done Q st:=awd_turn (trn_open h hob) hC hr
theorem dai {done:List Nat} (s q:Nat) {ob:Prop} {st':St} {C:List (Nat×Nat)} (h:st.aimD s q=some (ob,st',C)) (hC:Rec D C=true) (hob:ob) (hr:AWD M P ops D done Q st'):AWD M P ops D done Q st:=awd_turn (trn_aim h hob) hC hr
theorem lcl {l:List Oper} (r q:Nat) (same:Bool) {ob:Prop} {st':St} {C:List (Nat×Nat)} (h:st.closeD r q same=some (ob,st',C)) (hob:ob) (hr:AWL M P ops l Q st'):AWL M P ops l Q st:=awl_turn (trn_close h hob) hr
theorem dcl {done:List Nat} (r q:Nat) (same:Bool) {ob:Prop} {st':St} {C:List (Nat×Nat)} (h:st.closeD r q same=some (ob,st',C)) (hC:Rec D C=true) (hob:ob) (hr:AWD M P ops D done Q st'):AWD M P ops D done Q st:=awd_turn (trn_close h hob) hC hr
theorem cfd {c:Code} (r:Nat) {ob:Prop} {st':St} {C:List (Nat×Nat)} (h:st.freezeD r=some (ob,st',C)) (hob:ob) (hr:AW M P c Q st'):AW M P c Q st:=aw_turn (trn_freeze h hob) hr
theorem cnb {c:Code} (r k q:Nat) (e E:TypeId) (t:Ty) {ob:Prop} {st':St} {C:List (Nat×Nat)} (h:st.nilBD r k q e E t=some (ob,st',C)) (hob:ob) (hr:AW M P c Q st'):AW M P c Q st:=aw_turn (trn_nilB h hob) hr
theorem lmk {o:Oper} {rest:List Oper} (d:Nat) (T:List Nat) (c:Con) {ob:Prop} (hg:o.guard=none) (hd:o.dst=some d) (hdn:decide (d<st.n)=true) (h:evalB P st o.op=some (ob,T,c)) (hob:ob)
  (hr:AWL M P ops rest Q (st.takenL d T c)):AWL M P ops (o::rest) Q st:=awl_made hg hd hdn h hob hr
end
end Dec
namespace Dec
open Go Go.RowKit
end Dec
namespace Dec
open Go Go.RowKit
def copyL (L m:List Int) (lo n:Nat):List Int:=L.take lo++m.take n++L.drop (lo+min n m.length)
theorem copyL_len {L m:List Int} {lo n:Nat} (h:lo+n≤L.length):(copyL L m lo n).length=L.length:=by
 unfold copyL
 simp only [List.length_append,List.length_take,List.length_drop]
 omega
def dstOf (st:St) (X:AV):Option (Nat×Nat×Nat) :=
 match X with
 | .v (.c (.own r))=>match st.con [] r with
  | some (.arr _ (.int .i64) l)=>some (r,0,l.length)
  | _=>none
 | .v (.c (.vw r lo n sz))=>if sz == 1 then some (r,lo,n) else none
 | _=>none
section
variable {M:Md→Prop} {P:Program} {w0 w:World} {S0:Base} {G:Ghost} {st st':St} {a:Act} {ops:Array Oper} {Q:XE→St→Prop} {D:List Nat}
theorem copy_sound {o:Oper} {x y:Operand} {ta tb:TypeId} {cl:Call} (d r lo n:Nat) (e e':TypeId) (L m:List Int) {X Y:AV} (hdn:d<st.n)
  (ho:o.op=.call cl) (hcal:cl.callee=.builtin .copy) (hargs:cl.args = #[x,y]) (hats:cl.argTypes = #[ta,tb]) (hta:elemOf P ta=some e') (hte:tyOf P 8 e'=some (.int .i64))
  (hx:st.val [] x=some X) (hdst:dstOf st X=some (r,lo,n)) (hcon:st.con [] r=some (.arr e (.int .i64) L)) (hy:st.val [] y=some Y) (hsrc:srcOf st [] (.int .i64) Y=some m)
  (hob:0<n∧lo+n≤L.length) (hs:SR w0 S0 G st a w) :
  ∃ v w',(execOp a.eval o).run P w=.ok (.value v) w'∧Mv [r] G w G w'∧SR w0 S0 G ((st.upd r (.arr e (.int .i64) (copyL L m lo n))).put d [] (.v (.c (.p (.int .i64) ((min n m.length:Nat):Int))))) (a.put (some d) v) w':=by
 obtain ⟨hn0,hln⟩:=hob
 have hxr:=hs.val_ holds_nil hx
 obtain ⟨xs,hxl,hown,hml,hcol⟩:=hs.con_ holds_nil hcon
 obtain ⟨sad,sc,hv2,hsr⟩:=src_rep hsrc hs holds_nil (hs.val_ holds_nil hy)
 obtain ⟨ys,hyl,hcells⟩:∃ ys,EncL (Enc w G.S (.int .i64)) m ys∧(m.length=0∨∃ a1,sad=some a1∧∀ j v,ys[j]? = some v→w.cell? (a1.add j)=some v):=by
  rcases hsr with h0 | ⟨a1,ys,h1,h2,h3⟩
  ·have:m=[]:=List.eq_nil_of_length_eq_zero h0
   subst this
   exact ⟨[],rfl,.inl rfl⟩
  ·exact ⟨ys,h2,.inr ⟨a1,h1,h3⟩⟩
 have hysl:ys.length=m.length:=by
  have:=EncL.length (fun _ _ hh=>Enc.length hh) hyl
  rw [this];simp [Ty.size]
 have hxsl:xs.length=L.length:=by
  have:=EncL.length (fun _ _ hh=>Enc.length hh) hxl
  rw [this];simp [Ty.size]
 have hyso:=EncL.one (fun _ _ hh=>Enc.one hh) hyl
 rcases hown.2 with ⟨_,h0⟩ | ⟨g,cap,cur,e0,hb0,hb,hnc,hcm,hcs,htk⟩
 ·omega
 simp only [Ty.size,Nat.mul_one] at hcs htk
 obtain ⟨c,hxv⟩:∃ c,a.eval x=.slice (some ⟨g,lo,none⟩) n c:=by
  unfold dstOf at hdst
  split at hdst
  ·rename_i r'
   split at hdst
   ·rename_i e9 l9 hc9
    injection hdst with hdst
    injection hdst with h1 h2
    injection h2 with h2 h3
    subst h1 h2
    rw [hc9] at hcon
    injection hcon with hcon
    injection hcon with _ _ hcon
    have hl9:l9=L:=hcon
    subst hl9
    obtain ⟨h9,_⟩:ClRep w G (.own r') (a.eval x):=hxr
    subst h3
    exact ⟨cap,by rw [h9];exact e0⟩
   ·cases hdst
  ·rename_i r' lo' n' sz
   split at hdst
   ·rename_i hsz
    have hsz':sz=1:=by simpa using hsz
    injection hdst with hdst
    injection hdst with h1 h2
    injection h2 with h2 h3
    subst h1 h2 h3 hsz'
    obtain ⟨ad,len,cp,c,a',hr,hl,hnc2,hcap,hv,ha',hg0⟩:ClRep w G (.vw r' lo' n' 1) (a.eval x):=hxr
    rw [e0] at hr
    injection hr with h1 h2 h3
    subst h1 h2 h3
    refine ⟨c,?_⟩
    rw [hv]
    rcases ha' with ⟨h4,_⟩ | h4
    ·omega
    ·rw [h4];simp [addr_add]
   ·cases hdst
  ·cases hdst
 have hcolg:G.col g=some r:=hcol g (by rw [e0];rfl)
 have huta:=elemOf_under hta
 obtain ⟨ie,hie,his⟩:=tyOf_info hte
 have hk:(ys.take n).length=min n m.length:=by rw [List.length_take,hysl]
 have hmin:(ys.take n).length=Nat.min m.length n:=by rw [hk];exact Nat.min_comm _ _
 have hcurl:cur.toList.length=cap:=by rw [Array.length_toList,hcs]
 have hfit:lo+(ys.take n).length≤cur.size:=by rw [hk,hcs];omega
 have hone:∀ v∈ys.take n,v.oneCell'=true:=fun v hv=>hyso v (List.mem_of_mem_take hv)
 have hrun:=run_copy_any (P:=P) (w:=w) ta tb o.type e' g lo n c sad m.length sc cur e (ys.take n) huta (by rw [hie];simp [his,Ty.size]) hb hmin (hcells.imp id fun ⟨a1,h4,h5⟩=>⟨a1,h4,fun j v hj=>h5 j v (by
  rw [List.getElem?_take] at hj
  split at hj
  ·exact hj
  ·cases hj)⟩) hfit hone
 have hS:∀ x,G.S x→G.S x∧(w.setRow g (cur.toList.take lo++ys.take n++cur.toList.drop (lo+(ys.take n).length)).toArray).heap[x]? = w.heap[x]? :=
  fun x hx=>⟨hx,setRow_other w g x _ (fun e=>by subst e;exact (hs.colr _ _ hcolg).2.2 hx)⟩
 refine ⟨goInt (ys.take n).length,w.setRow g (cur.toList.take lo++ys.take n++cur.toList.drop (lo+(ys.take n).length)).toArray,?_,mv_row hcolg _,?_⟩
 ·simp only [execOp,ho,resolve,hcal,hargs,hats,invoke,builtin,Sem.run_bind,Sem.run_pure,Result.andThen_ok,List.map_toArray,List.map_cons,List.map_nil]
  rw [hxv,hv2,hrun]
  rfl
 ·have hset:EncL (Enc w G.S (.int .i64)) (copyL L m lo n) (xs.take lo++ys.take n++xs.drop (lo+(ys.take n).length)):=by
   unfold copyL
   have t1:=EncL.take (fun _ _ hh=>Enc.length hh) lo hxl
   have t2:=EncL.take (fun _ _ hh=>Enc.length hh) n hyl
   have t3:=EncL.drop (fun _ _ hh=>Enc.length hh) (lo+min n m.length) hxl
   simp only [Ty.size,Nat.mul_one] at t1 t2 t3
   rw [hk]
   exact (t1.append t2).append t3
  have h1:=hs.upd (c:=.arr e (.int .i64) (copyL L m lo n)) hcolg ⟨_,EncL.imp (fun _ _ hh=>Enc.keep hS hh) hset,?_,by rw [copyL_len hln];exact hml,hcol⟩
  ·have h2:=h1.put (i:=d) (p:=[]) (x:=.v (.c (.p (.int .i64) ((min n m.length:Nat):Int)))) (v:=goInt (ys.take n).length) hdn rfl (fun _=>?_) (fun hn=>absurd holds_nil hn)
   ·exact h2
   ·rw [hk]
    have hle:min n m.length≤L.length:=by omega
    refine ⟨rfl,?_⟩
    simp only [maxLen] at hml
    obtain ⟨k9,hk9⟩:∃ k9,min n m.length=k9:=⟨_,rfl⟩
    rw [hk9] at hle ⊢
    exact ⟨Int.le_trans (show IntKind.min .i64≤0 by decide) (Int.natCast_nonneg k9),Int.le_trans (show (k9:Int)≤9223372036854775807 by omega) (show (9223372036854775807:Int)≤IntKind.max .i64 by decide)⟩
  ·rw [e0,copyL_len hln]
   refine ⟨?_,.inr ⟨g,cap,_,rfl,hb0,setRow_heap w g cur _ e _ hb,hnc,hcm,?_,?_⟩⟩
   ·simp only [List.length_append,List.length_take,List.length_drop,hxsl,hysl,Ty.size,Nat.mul_one]
    omega
   ·simp only [List.size_toArray,List.length_append,List.length_take,List.length_drop,hcurl,hysl,Ty.size,Nat.mul_one]
    omega
   ·simp only [Ty.size,Nat.mul_one,hk]
    rw [←htk]
    have hsp:=take_splice cur.toList (ys.take n) lo L.length (by rw [hk];omega) (by rw [hcurl];exact hnc)
    rw [hk] at hsp
    exact hsp
theorem awl_copyv {o:Oper} {rest:List Oper} {x y:Operand} {ta tb:TypeId} {cl:Call} (d r lo n:Nat) (e e':TypeId) (L m:List Int) {X Y:AV} (hg:o.guard=none) (hd:o.dst=some d) (hdn:decide (d<st.n)=true)
  (ho:o.op=.call cl) (hcal:cl.callee=.builtin .copy) (hargs:cl.args = #[x,y]) (hats:cl.argTypes = #[ta,tb]) (hta:elemOf P ta=some e') (hte:tyOf P 8 e'=some (.int .i64))
  (hx:st.val [] x=some X) (hdst:dstOf st X=some (r,lo,n)) (hcon:st.con [] r=some (.arr e (.int .i64) L)) (hy:st.val [] y=some Y) (hsrc:srcOf st [] (.int .i64) Y=some m)
  (hob:0<n∧lo+n≤L.length) (hst:(st.upd r (.arr e (.int .i64) (copyL L m lo n))).put d [] (.v (.c (.p (.int .i64) ((min n m.length:Nat):Int))))=st')
  (hr:AWL M P ops rest Q st'):AWL M P ops (o::rest) Q st:=by
 subst hst
 intro md w0 S0 G a w hs
 refine lwp_step fun K hK=>?_
 rw [if_pos (by simp [Region.wanted,hg])]
 obtain ⟨v,w',h1,_,h2⟩:=copy_sound d r lo n e e' L m (by simpa using hdn) ho hcal hargs hats hta hte hx hdst hcon hy hsrc hob hs
 refine upon_value' h1 ?_
 rw [hd]
 exact hK _ _ (hr _ _ _ _ _ _ h2)
theorem adop_copyv {i:Nat} {o:Oper} {done:List Nat} {x y:Operand} {ta tb:TypeId} {cl:Call} (d r lo n:Nat) (e e':TypeId) (L m:List Int) {X Y:AV} (hi:ops[i]? = some o) (hg:o.guard=none) (hd:o.dst=some d) (hdn:decide (d<st.n)=true)
  (ho:o.op=.call cl) (hcal:cl.callee=.builtin .copy) (hargs:cl.args = #[x,y]) (hats:cl.argTypes = #[ta,tb]) (hta:elemOf P ta=some e') (hte:tyOf P 8 e'=some (.int .i64))
  (hx:st.val [] x=some X) (hdst:dstOf st X=some (r,lo,n)) (hcon:st.con [] r=some (.arr e (.int .i64) L)) (hy:st.val [] y=some Y) (hsrc:srcOf st [] (.int .i64) Y=some m)
  (hT:([r].all fun q=>D.contains q)=true) (hob:0<n∧lo+n≤L.length) (hst:(st.upd r (.arr e (.int .i64) (copyL L m lo n))).put d [] (.v (.c (.p (.int .i64) ((min n m.length:Nat):Int))))=st')
  (hr:AWD M P ops D (i::done) Q st'):ADOp M P ops D done i Q st:=by
 subst hst
 intro md w0 S0 G a w hs
 have hT':∀ q∈[r],q∈D:=fun q hq=>by simpa using List.all_eq_true.1 hT q hq
 unfold owp wpOpIn
 simp only [hi]
 rw [if_pos (by simp [Region.wanted,hg])]
 obtain ⟨v,w',h1,hmv,h2⟩:=copy_sound d r lo n e e' L m (by simpa using hdn) ho hcal hargs hats hta hte hx hdst hcon hy hsrc hob hs
 refine upon_value' h1 ?_
 rw [hd]
 exact ⟨Nx.of_mv hT' hmv,awpH_weaken (fun w2 h3=>Nx.step hT' hmv h3) _ _ _ _ (hr _ _ _ _ _ _ h2)⟩
end
end Dec
namespace Dec
open Go Go.RowKit
section
variable {M:Md→Prop} {P:Program} {st:St} {ops:Array Oper} {Q:XE→St→Prop} {D:List Nat}
theorem qR (n:Nat) {l:List Oper} {ob:Prop} (st':St) (hob:ob) (hr:AWL M P ops (l.drop n) Q st') (h:runp P ops n l st st'.ks st'.kh=some (ob,st'):=by kernel_rfl):AWL M P ops l Q st:=rq n h hob hr
theorem qT (n:Nat) {l:List Oper} (st':St) (hr:AWL M P ops (l.drop n) Q st') (h:runp P ops n l st st'.ks st'.kh=some (Ts n True,st'):=by kernel_rfl):AWL M P ops l Q st:=rqT n st' h hr
theorem qA (n a b:Nat) {l:List Oper} {X Y:Prop} (st':St) (o:X∧Y) (hr:Y→AWL M P ops (l.drop n) Q st') (h:runp P ops n l st st'.ks st'.kh=some (Ts a (X∧Ts b True),st'):=by kernel_rfl):AWL M P ops l Q st:=rq n h (tsI a ⟨o.1,tsI b trivial⟩) (hr o.2)
theorem qS (n:Nat) {id:Nat} {l:List Oper} {y:Code} (st':St) (hr:AW M P y Q st') (h:runp P l.toArray n l st st'.ks st'.kh=some (Ts n True,st'):=by kernel_rfl) (he:l.drop n=[]:=by rfl):AW M P (.seq (.region id l.toArray false) y) Q st:=srn n st' h he hr
theorem qL {l:List Oper} (st':St) (hr:AWL M P ops l Q st') (h:conv [.prune st'.ks st'.kh] st=some st':=by kernel_rfl):AWL M P ops l Q st:=lpr h hr
theorem qC {c:Code} (st':St) (hr:AW M P c Q st') (h:conv [.prune st'.ks st'.kh] st=some st':=by kernel_rfl):AW M P c Q st:=cpr h hr
theorem qV {c:Code} (ds:List Dir) (st':St) (hr:AW M P c Q st') (h:conv ds st=some st':=by kernel_rfl):AW M P c Q st:=aw_conv ds h hr
theorem qW {l:List Oper} (ds:List Dir) (st':St) (hr:AWL M P ops l Q st') (h:conv ds st=some st':=by kernel_rfl):AWL M P ops l Q st:=awl_conv ds h hr
theorem qI {c:Operand} {x y:Code} {b:Bool} {X Y:Prop} (h:(b=true→X)∧(b=false→Y)) (h1:X→AW M P x Q st) (h2:Y→AW M P y Q st) (hc:st.val [] c=some (.v (.c (.p .bool b))):=by kernel_rfl):AW M P (.cond c x y) Q st:=aw_cond hc (fun hb=>h1 (h.1 hb)) (fun hb=>h2 (h.2 hb))
theorem qE {σ:Type} {R:σ→List V1} {K:σ→Prop} {tys:List Ty} {rs:List RV} {y:σ} (n:Nat) (hk:K y) (hr:resOf P st tys rs=some (Ts n True,R y):=by kernel_rfl):retQ P tys rs (fun res=>∃ y,res=R y∧K y) .r st:=retQ_r y hr (tsI n trivial) hk
theorem qK {σ:Type} {o:Oper} {rest:List Oper} (d:Nat) {f:FuncId} {l:List V1} {k:σ→Prop} {R:σ→List V1} (tys:List AT) (S:σ→St) (hf:FnOk P f) (hT:ACalls P f l (fun res=>∃ y,res=R y∧k y)) (hrest:∀ y,k y→AWL M P ops rest Q (S y))
  (hc:callChk ops st o false tys=some (d,[],f,l):=by kernel_rfl) (hS:∀ y,(st.put d [] (resAV (R y))).keep (S y).ks (S y).kh=S y:=by exact fun _=>by kernel_rfl):AWL M P ops (o::rest) Q st:=lcq tys S hc hf hS hT hrest
theorem qD (is:List Nat) {done:List Nat} (done':List Nat) (st':St) {ob:Prop} (hob:ob) (hr:AWD M P ops D done' Q st') (h:runDp P ops D is done st st'.ks st'.kh=some (ob,done',st'):=by kernel_rfl) (hsel:plainOps ops=true:=by kernel_rfl):AWD M P ops D done Q st:=drq hsel is h hob hr
theorem qDT (a:Nat) (is:List Nat) {done:List Nat} (done':List Nat) (st':St) (hr:AWD M P ops D done' Q st') (h:runDp P ops D is done st st'.ks st'.kh=some (Ts a True,done',st'):=by kernel_rfl) (hsel:plainOps ops=true:=by kernel_rfl):AWD M P ops D done Q st:=drq hsel is h (tsI a trivial) hr
theorem qDO (a b:Nat) (is:List Nat) {done:List Nat} (done':List Nat) (st':St) {X:Prop} (o:X) (hr:AWD M P ops D done' Q st') (h:runDp P ops D is done st st'.ks st'.kh=some (Ts a (X∧Ts b True),done',st'):=by kernel_rfl) (hsel:plainOps ops=true:=by kernel_rfl):AWD M P ops D done Q st:=drq hsel is h (tsI a ⟨o,tsI b trivial⟩) hr
end
end Dec
