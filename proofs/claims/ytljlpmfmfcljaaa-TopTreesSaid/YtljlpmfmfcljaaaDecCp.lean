/-
How long the slices of an argument are: each takes at most 2^47 - 4096 bytes, wherever it lies in the datum. A row of numbers is copied into an array that stands in an own struct.
-/
import Derived.Test.YtljlpmfmfcljaaaDecRc
import Derived.Test.YtljlpmfmfcljaaaDecV
import Derived.Deep.Slices
import Derived.Carry
import Derived.SizedLaws
import Derived.Test.YtljlpmfmfcljaaaDecRh
import Derived.Laws.CopyRow
set_option linter.unusedSimpArgs false
set_option linter.unusedVariables false
namespace Dec
open Go Go.RowKit Go.Deep Go.ChangeShapes Go.WideShapes
def SzOk:(t:Ty)→t.T→Prop
 | .sl t,l=>l.length*wid t≤140737488351232∧∀ x∈l,SzOk t x
 | .pr a b,x=>SzOk a x.1∧SzOk b x.2
 | .int _,_=>True
 | .bool,_=>True
 | .ar _ _,_=>True
 | .mp _ _,_=>True
 | .tr,_=>True
def widB (P:Program):Nat→TypeId→Bool
 | 0,_=>false
 | n+1,t=>match P.underlying t with
  | some (.slice e)=>(match tyOf0 P n e with | some v=>P.bytesOf e == wid v | none=>false)&&widB P n e
  | some (.struct fs)=>fs.toList.all fun f=>widB P n f.type
  | _=>true
section
variable {H:Type} {enc:TypeId×Value→H} {P:Program} {w:World}
theorem weightsAll_mem {e:TypeId} : ∀ {l:List (DataW H)} {d:DataW H},d∈l→∀ n∈d.weights P e,n∈DataW.weightsAll P e l
 | [],_,h,_,_=>by simp at h
 | x::l,d,h,n,hn=>by
  simp only [DataW.weightsAll,List.mem_append]
  rcases List.mem_cons.1 h with rfl | h
  ·exact .inl hn
  ·exact .inr (weightsAll_mem h n hn)
theorem encl_of_index_s {α:Type} {E:α→List Value→Prop} {sz len:Nat} (f:Nat→Option Value) (R:α→Prop) (hE:∀ i,i<len→∃ y cs,E y cs∧cs.length=sz∧R y∧∀ j,j<sz→f (i*sz+j)=cs[j]?) :
  ∃ l xs,l.length=len∧EncL E l xs∧xs.length=len*sz∧(∀ y∈l,R y)∧∀ j u,xs[j]? = some u→f j=some u:=by
 induction len with
 | zero=>exact ⟨[],[],rfl,rfl,by simp,by simp,by simp⟩
 | succ n ih =>
  obtain ⟨l,xs,h1,h2,h3,hw,h4⟩:=ih fun i hi=>hE i (Nat.lt_succ_of_lt hi)
  obtain ⟨y,cs,h5,h6,hy,h7⟩:=hE n (Nat.lt_succ_self n)
  refine ⟨l++[y],xs++cs,by simp [h1],EncL.append h2 (EncL.single h5),by simp [h3,h6,Nat.add_mul],fun z hz=>?_,fun j u hj=>?_⟩
  ·rcases List.mem_append.1 hz with hz | hz
   ·exact hw z hz
   ·rw [List.mem_singleton.1 hz];exact hy
  ·by_cases hjx:j<xs.length
   ·rw [List.getElem?_append_left hjx] at hj
    exact h4 j u hj
   ·rw [List.getElem?_append_right (by omega)] at hj
    have hjl:j-xs.length<cs.length:=(List.getElem?_eq_some_iff.1 hj).1
    have:=h7 (j-xs.length) (by omega)
    rw [show n*sz+(j-xs.length)=j by omega] at this
    rw [this,hj]
theorem enc_fields_s {n:Nat} {cs:List Value} :
  ∀ {fs:List Field} {off:Nat} {l:List Ty} {u:Ty},fieldTys (tyOf0 P n) fs off=some l→nest l=some u→cs.length=off+u.size →
   (∀ (i:Nat) (f:Field),fs[i]? = some f→∀ t,tyOf0 P n f.type=some t→∃ y,Enc w (Old w) t y ((cs.drop f.offset).take t.size)∧SzOk t y)→∃ y,Enc w (Old w) u y (cs.drop off)∧SzOk u y
 | [],off,l,u,h,hn,_,_=>by
  simp only [fieldTys] at h
  injection h with h;subst h
  simp [nest] at hn
 | x::xs,off,l,u,h,hn,hl,hf=>by
  simp only [fieldTys] at h
  split at h
  ·rename_i t ht
   split at h
   ·rename_i ho
    simp only [beq_iff_eq] at ho
    split at h
    ·rename_i l' hl'
     injection h with h;subst h
     obtain ⟨y,hy,hyw⟩:=hf 0 x rfl t ht
     rw [ho] at hy
     cases l' with
     | nil =>
      simp only [nest] at hn
      injection hn with hn;subst hn
      refine ⟨y,?_,hyw⟩
      rw [List.take_of_length_le (by simp;omega)] at hy
      exact hy
     | cons t2 l2 =>
      simp only [nest] at hn
      split at hn
      ·rename_i u' hu'
       injection hn with hn;subst hn
       simp only [Ty.size] at hl
       obtain ⟨z,hz,hzw⟩:=enc_fields_s (cs:=cs) (fs:=xs) hl' hu' (by omega) (fun i f hi=>by simpa using hf (i+1) f (by simpa using hi))
       refine ⟨(y,z),⟨_,_,?_,hy,hz⟩,hyw,hzw⟩
       rw [←List.drop_drop]
       exact (List.take_append_drop _ _).symm
      ·cases hn
    ·cases h
   ·cases h
  ·cases h
theorem enc_of_trod_s:∀ (n:Nat) {t:TypeId} {u:Ty} {fuel:Nat} {cs:List Value} {x:DataW H×List MemPlace},tyOf0 P n t=some u→widB P n t=true→(∀ k∈x.1.weights P t,k≤reachBytes)→DataW.trod enc P w 0 (fun _=>true) true fuel t cs=some x→∃ y:u.T,Enc w (Old w) u y cs∧SzOk u y
 | 0,t,u,_,_,_,h,_,_,_=>by simp [tyOf0] at h
 | n+1,t,u,fuel,cs,x,h,hwb,hwt,hx=>by
  have h0:=h
  simp only [tyOf0] at h
  split at h
  ·cases h
  ·rename_i inf hinf
   split at h
   ·rename_i k hu
    split at h
    ·injection h with h;subst h
     obtain ⟨m,rfl,_,hw⟩:=DataW.trod_int hu hx
     exact ⟨m,⟨rfl,wf_range hw⟩,trivial⟩
    ·cases h
   ·rename_i hu
    split at h
    ·injection h with h;subst h
     obtain ⟨b,rfl,_⟩:=DataW.trod_bool hu hx
     exact ⟨b,rfl,trivial⟩
    ·cases h
   ·rename_i e hu
    split at h
    ·split at h
     ·rename_i v hv
      injection h with h;subst h
      rcases open_slice hu hx with ⟨rfl,_⟩ | ⟨a,len,cap,m,n',D,Pl,rfl,_,hl,hm,hmm,hxe,hel⟩
      ·exact ⟨[],⟨none,0,rfl,Nat.le_refl _,Nat.zero_le _,.inl rfl⟩,by simp [SzOk]⟩
      ·simp only [if_true] at hmm
       subst hmm
       have hsz:=tyOf_cells (tyOf_of0 _ hv)
       cases len with
       | zero=>exact ⟨[],⟨some a,m,rfl,Nat.zero_le _,hm,.inl rfl⟩,by simp [SzOk]⟩
       | succ len =>
        have hpos:=v.size_pos
        have hfirst:∃ c e' fz,w.heap[a.block]? = some (.cells c e' fz)∧a.spot=none:=by
         obtain ⟨cs',h1,_⟩:=hel 0 (by omega)
         obtain ⟨_,h2,h3⟩:=World.cells?_some h1
         have h4:=h3 0 (by omega)
         simp only [Nat.zero_mul] at h4
         rw [show (a.add 0).add 0=a from by simp [Addr.add],List.getElem?_eq_getElem (by omega)] at h4
         unfold World.cell? at h4
         split at h4
         ·rename_i c e' fz hb
          refine ⟨c,e',fz,hb,?_⟩
          cases hs:a.spot with
          | none=>rfl
          | some _=>simp [hs] at h4
         ·cases h4
        obtain ⟨c,e',fz,hb,hspot⟩:=hfirst
        have hcell:∀ j,w.cell? (a.add j)=c[a.off+j]?:=by
         intro j
         by_cases hj:j=0
         ·subst hj;simp [Addr.add,World.cell?,hb,hspot]
         ·simp [Addr.add,hj,World.cell?,hb]
        have hwb':P.bytesOf e=wid v∧widB P n e=true:=by
         simp only [widB,hu,hv,Bool.and_eq_true,beq_iff_eq] at hwb
         exact hwb
        have hwt':∀ k∈(len+1+(m-(len+1)))*P.bytesOf e::(DataW.weightsAll P e ((List.range (len+1)).map D)++DataW.weightsAll P e ((List.range (m-(len+1))).map fun j=>D (len+1+j))),k≤reachBytes:=by
         rw [hxe] at hwt
         simp only [DataW.weights,hu,List.length_map,List.length_range] at hwt
         exact hwt
        obtain ⟨l,xs,h1,h2,_,hww,h4⟩:=encl_of_index_s (E:=fun y cs=>Enc w (Old w) v y cs) (sz:=v.size) (len:=len+1) (fun j=>c[a.off+j]?) (fun y=>SzOk v y) (fun i hi=>by
         obtain ⟨cs',h5,h6⟩:=hel i (by omega)
         obtain ⟨y,hy,hyw⟩:=enc_of_trod_s n hv hwb'.2 (fun k hk=>hwt' k (List.mem_cons_of_mem _ (List.mem_append_left _ (weightsAll_mem (List.mem_map.2 ⟨i,List.mem_range.2 hi,rfl⟩) k hk)))) h6
         obtain ⟨_,h7,h8⟩:=World.cells?_some h5
         refine ⟨y,cs',hy,by rw [h7,hsz],hyw,fun j hj=>?_⟩
         have:=h8 j (by omega)
         rw [add_add,hsz,hcell] at this
         exact this)
        refine ⟨l,⟨some a,m,by rw [h1],by rw [h1];exact hl,hm,.inr ⟨a.block,a.off,c,e',fz,xs,?_,?_,hb,h2,h4⟩⟩,?_⟩
        ·cases a;simp_all
        ·exact (Array.getElem?_eq_some_iff.1 hb).1
        ·refine ⟨?_,hww⟩
         have h9:=hwt' _ List.mem_cons_self
         rw [hwb'.1] at h9
         rw [h1]
         show _≤reachBytes
         exact Nat.le_trans (Nat.mul_le_mul_right _ (Nat.le_add_right _ _)) h9
     ·cases h
    ·cases h
   ·rename_i fs hu
    split at h
    ·cases h
    split at h
    ·rename_i l hl
     split at h
     ·rename_i u' hu'
      split at h
      ·rename_i hck
       injection h with h;subst h
       simp only [Bool.and_eq_true,beq_iff_eq] at hck
       obtain ⟨xs,n',_,hxe,hlen,hxl,hxs⟩:=DataW.trod_struct hu hx
       have hcs:cs.length=u'.size:=by rw [hlen];simp [Program.cellsOf,hinf,hck.2]
       have hwb':∀ f∈fs.toList,widB P n f.type=true:=by
        simp only [widB,hu] at hwb
        exact List.all_eq_true.1 hwb
       have hwt':∀ k∈DataW.weightsEach P (fs.toList.map (·.type)) (xs.map (·.1)),k≤reachBytes:=by
        rw [hxe] at hwt
        simp only [DataW.weights,hu] at hwt
        exact hwt
       obtain ⟨y,hy,hyw⟩:=enc_fields_s (w:=w) (n:=n) (cs:=cs) hl hu' (by omega) (fun i f hi t ht=>by
        have hi':fs[i]? = some f:=by simpa using hi
        have h5:=hxs i f hi'
        rw [tyOf_cells (tyOf_of0 _ ht)] at h5
        have hi2:i<xs.length:=by rw [hxl];exact (Array.getElem?_eq_some_iff.1 hi').1
        rw [List.getElem?_eq_getElem hi2] at h5
        obtain ⟨y,k1,k2⟩:=enc_of_trod_s n ht (hwb' f (List.mem_of_getElem? hi)) (fun k hk=>hwt' k (DataW.weights_mem_each (j:=i) (by rw [List.getElem?_map,hi];rfl) (by rw [List.getElem?_map,List.getElem?_eq_getElem hi2];rfl) k hk)) h5
        exact ⟨y,k1,k2⟩)
       exact ⟨y,by simpa using hy,hyw⟩
      ·cases h
     ·cases h
    ·cases h
   ·cases h
theorem prep_ok_s {n:Nat} {t:TypeId} {u:Ty} (h:tyOf0 P n t=some u) (hwb:widB P n t=true) {r:Reach} {b0:Nat} {v:Value} {d:DataW H} {ps:List MemPlace} (hval:Value.okWide P w r b0 t v) (hd:DataW.Trod enc P w 0 (fun _=>true) true t v d ps) (hwt:∀ k∈d.weights P t,k≤reachBytes) :
  ∃ y:u.T,PRep w (Old w) (toV1 u y) v∧Ok u y∧SzOk u y:=by
 obtain ⟨fuel,hf⟩:=hd
 obtain ⟨y,hy,hyw⟩:=enc_of_trod_s n h hwb hwt hf
 refine ⟨y,⟨u,y,_,rfl,hy,?_⟩,Enc.ok hy,hyw⟩
 have h0:=h
 cases n with
 | zero=>simp [tyOf0] at h
 | succ n =>
  simp only [tyOf0] at h
  split at h
  ·cases h
  ·split at h
   ·rename_i hu
    split at h
    ·injection h with h;subst h
     obtain ⟨m,rfl⟩:=okWide_int hu hval
     rfl
    ·cases h
   ·rename_i hu
    split at h
    ·injection h with h;subst h
     obtain ⟨m,rfl⟩:=okWide_bool hu hval
     rfl
    ·cases h
   ·rename_i hu
    split at h
    ·split at h
     ·injection h with h;subst h
      obtain ⟨a,len,cap,rfl⟩:=okWide_slice hu hval
      rfl
     ·cases h
    ·cases h
   ·rename_i hu
    split at h
    ·cases h
    split at h
    ·split at h
     ·split at h
      ·rename_i hs
       injection h with h;subst h
       simp only [Bool.and_eq_true] at hs
       unfold Value.okWide at hval
       rw [hu] at hval
       obtain ⟨cs,rfl,_⟩:=hval
       simp [mkVal,hs.1,Value.cells]
      ·cases h
     ·cases h
    ·cases h
   ·cases h
end
end Dec
namespace Dec
open Go Go.RowKit
variable {M:Md→Prop}
theorem All2.of_get {α β:Type} {R:α→β→Prop} : ∀ {l:List α} {m:List β},l.length=m.length→(∀ (i:Nat) (a:α) (b:β),l[i]? = some a→m[i]? = some b→R a b)→All2 R l m
 | [],[],_,_=>trivial
 | x::l,y::m,h,H=>⟨H 0 x y rfl rfl,All2.of_get (by simpa using h) fun i a b h1 h2=>H (i+1) a b (by simpa using h1) (by simpa using h2)⟩
 | [],_::_,h,_=>by simp at h
 | _::_,[],h,_=>by simp at h
def copied (cs:List Cl) (off n:Nat) (l:List Int):List Cl:=cs.take off++((List.range n).map fun i=>Cl.p (.int .i64) (l.getD i 0))++cs.drop (off+n)
section
variable {P:Program} {w0 w:World} {S0:Base} {G:Ghost} {st:St} {a:Act} {ops:Array Oper} {Q:XE→St→Prop}
theorem run_copy_any (dT sT ty elem:TypeId) (g o dLen dCap:Nat) (ad:Option Addr) (sLen sCap:Nat) (cur:Array Value) (t:TypeId) (cs:List Value) (hu:P.underlying dT=some (.slice elem)) (hs:(P.info? elem).map (·.size)=some 1)
  (hg:w.heap[g]? = some (.cells cur t (0,0))) (hn:cs.length=Nat.min sLen dLen) (hsrc:sLen=0∨∃ a1,ad=some a1∧∀ j v,cs[j]? = some v→w.cell? (a1.add j)=some v) (hfit:o+cs.length≤cur.size) (h1:∀ v∈cs,v.oneCell'=true) :
  (Builtin.copy_ #[dT,sT] ty #[.slice (some ⟨g,o,none⟩) dLen dCap,.slice ad sLen sCap]).run P w=.ok (goInt cs.length) (w.setRow g (cur.toList.take o++cs++cur.toList.drop (o+cs.length)).toArray):=by
 cases ad with
 | some a1 =>
  refine run_copy_row P w dT sT ty elem g o dLen dCap a1 sLen sCap cur t cs hu hs hg hn ?_ hfit h1
  rcases hsrc with h0 | ⟨a2,e,h⟩
  ·intro j v hj
   have:cs=[]:=List.eq_nil_of_length_eq_zero (by rw [hn,h0];simp)
   rw [this] at hj
   simp at hj
  ·injection e with e;subst e;exact h
 | none =>
  rcases hsrc with h0 | ⟨a2,e,h⟩
  ·subst h0
   have:cs=[]:=List.eq_nil_of_length_eq_zero (by rw [hn];simp)
   subst this
   cases hq:P.info? elem with
   | none=>simp [hq] at hs
   | some i =>
    simp only [List.append_nil,List.length_nil,Nat.add_zero,List.take_append_drop,Array.toArray_toList]
    rw [setRow_self w g cur t (0,0) hg]
    simp [Builtin.copy_,run_underlying hu,Builtin.lenOf,Builtin.firstCells,Go.sizeOf,typeInfo,hq,storeCells]
  ·cases e
set_option maxHeartbeats 1000000 in
theorem awl_copy {o1 o2 o3:Oper} {rest:List Oper} {t ta tb:TypeId} {x y:Operand} {c:Call} {d1 d2 d3:Nat} (e e':TypeId) (r off n:Nat) (cs:List Cl) (y':AV) (l:List Int) (st':St) (h1:o1.op=.slice t x none none none) (h1d:o1.dst=some d1) (h1g:o1.guard=none)
  (h2:o2.op=.move y) (h2d:o2.dst=some d2) (h2g:o2.guard=none) (h3:o3.op=.call c) (h3d:o3.dst=some d3) (h3g:o3.guard=none) (hc:c.callee=.builtin .copy) (hca:c.args.toList=[.tmp d1,.tmp d2]) (hct:c.argTypes.toList=[ta,tb])
  (hd:(decide (d1<st.n)&&decide (d2<st.n)&&decide (d3<st.n)&&!(d1 == d2))=true) (ht:arrayOf P t=some (n,e)) (htE:tyOf P 8 e=some (.int .i64)) (hta:elemOf P ta=some e') (hteE:tyOf P 8 e'=some (.int .i64))
  (hx:st.val [] x=some (.v (.c (.ptr r off)))) (hcon:st.con [] r=some (.box cs)) (hz:(cs.drop off).take n=List.replicate n (Cl.p (.int .i64) (0:Int))) (hfit:(decide (0<n)&&decide (off+n≤cs.length))=true)
  (hy:(st.put d1 [] (.v (.c .any))).val [] y=some y') (hsrc:srcOf (st.put d1 [] (.v (.c .any))) [] (.int .i64) y'=some l)
  (hst:((((st.put d1 [] (.v (.c .any))).put d2 [] (.v (.c .any))).upd r (.box (copied cs off n l))).put d3 [] (.v (.c .any)))=st')
  (hr:AWL M P ops rest Q st'):AWL M P ops (o1::o2::o3::rest) Q st:=by
 subst hst
 intro m w0 S0 G a w hs
 simp only [Bool.and_eq_true,decide_eq_true_eq,Bool.not_eq_true',beq_eq_false_iff_ne] at hd hfit
 obtain ⟨⟨⟨hd1,hd2⟩,hd3⟩,hd12⟩:=hd
 obtain ⟨hn0,hfit⟩:=hfit
 have hw:∀ (o:Oper) (a:Act),o.guard=none→Region.wanted o (yielded ops a.tmps)=true:=by
  intro o a h;simp [Region.wanted,h]
 obtain ⟨b,hr1,hv1⟩:=hs.val_ holds_nil hx
 obtain ⟨b2,vs,ty0,hr2,hcol,hb,hall⟩:=hs.con_ holds_nil hcon
 rw [hr1] at hr2
 injection hr2 with hr2;injection hr2 with hr2;injection hr2 with hr2 _;subst hr2
 have hut:P.underlying t=some (.array n e):=by
  unfold arrayOf at ht
  split at ht
  ·rename_i hu;injection ht with ht;injection ht with h4 h5;subst h4 h5;exact hu
  ·cases ht
 have huta:=elemOf_under hta
 have hex1:(execOp a.eval o1).run P w=.ok (.value (.slice (some ⟨b,off,none⟩) n n)) w:=by
  have hsz:=tyOf_size htE w
  have hv1':a.eval x=.pointer (some ⟨b,off,none⟩):=hv1
  have hne:¬n=0:=by omega
  simp [execOp,h1,Instr.sliceAt,run_underlying hut,Instr.sureAddr,hv1',Instr.sliceBounds,hsz,addr_add,hne]
 refine lwp_step fun K1 hK1=>?_
 rw [if_pos (hw o1 a h1g)]
 refine upon_value' hex1 (hK1 _ _ ?_)
 rw [h1d]
 have hs1:=hs.put (i:=d1) (p:=[]) (x:=.v (.c .any)) (v:=.slice (some ⟨b,off,none⟩) n n) hd1 rfl (fun _=>trivial) (fun hn=>absurd holds_nil hn)
 have hyr:=hs1.val_ holds_nil hy
 obtain ⟨ad,cc,hyv,hysrc⟩:=src_rep hsrc hs1 holds_nil hyr
 have hex2:(execOp (a.put (some d1) (.slice (some ⟨b,off,none⟩) n n)).eval o2).run P w=.ok (.value (.slice ad l.length cc)) w:=by
  simp [execOp,h2,hyv]
 refine lwp_step fun K2 hK2=>?_
 rw [if_pos (hw o2 _ h2g)]
 refine upon_value' hex2 (hK2 _ _ ?_)
 rw [h2d]
 have hs2:=hs1.put (i:=d2) (p:=[]) (x:=.v (.c .any)) (v:=.slice ad l.length cc) hd2 rfl (fun _=>trivial) (fun hn=>absurd holds_nil hn)
 have hsize1:(a.put (some d1) (.slice (some ⟨b,off,none⟩) n n)).tmps.size=st.n:=hs1.size
 have he1:((a.put (some d1) (.slice (some ⟨b,off,none⟩) n n)).put (some d2) (.slice ad l.length cc)).eval (.tmp d1)=.slice (some ⟨b,off,none⟩) n n:=by
  show ((a.put (some d1) (.slice (some ⟨b,off,none⟩) n n)).put (some d2) (.slice ad l.length cc)).tmps.getD d1 undef=_
  rw [getD_put_ne hd12,getD_put_same (by rw [hs.size];exact hd1)]
 have he2:((a.put (some d1) (.slice (some ⟨b,off,none⟩) n n)).put (some d2) (.slice ad l.length cc)).eval (.tmp d2)=.slice ad l.length cc:=by
  show ((a.put (some d1) (.slice (some ⟨b,off,none⟩) n n)).put (some d2) (.slice ad l.length cc)).tmps.getD d2 undef=_
  rw [getD_put_same (by rw [hsize1];exact hd2)]
 obtain ⟨xs,hxl,hxs⟩:∃ xs,EncL (Enc w G.S (.int .i64)) l xs∧(l.length=0∨∃ a1,ad=some a1∧∀ j u,xs[j]? = some u→w.cell? (a1.add j)=some u):=by
  rcases hysrc with h0 | ⟨a1,ys,h4,h5,h6⟩
  ·have:l=[]:=List.eq_nil_of_length_eq_zero h0
   subst this
   exact ⟨[],rfl,.inl rfl⟩
  ·exact ⟨ys,h5,.inr ⟨a1,h4,h6⟩⟩
 have hxlen:xs.length=l.length:=by
  have:=EncL.length (fun _ _ hh=>Enc.length hh) hxl
  rw [this];simp [Ty.size]
 have hvl:=hall.length
 have hcell1:∀ v∈xs.take n,v.oneCell'=true:=fun v hv=>EncL.one (fun _ _ hh=>Enc.one hh) hxl v (List.mem_of_mem_take hv)
 have hmin:(xs.take n).length=Nat.min l.length n:=by rw [List.length_take,hxlen];exact Nat.min_comm _ _
 obtain ⟨ie,hie,his⟩:=tyOf_info hteE
 have hrun:=run_copy_any (P:=P) (w:=w) ta tb o3.type e' b off n n ad l.length cc vs ty0 (xs.take n) huta (by rw [hie];simp [his,Ty.size]) hb hmin (hxs.imp id fun ⟨a1,h4,h5⟩=>⟨a1,h4,fun j v hj=>h5 j v (by
   rw [List.getElem?_take] at hj
   split at hj
   ·exact hj
   ·cases hj)⟩) (by
    have:(xs.take n).length≤n:=by rw [List.length_take];omega
    have hvs:vs.toList.length=vs.size:=by simp
    omega) hcell1
 have hargs:c.args = #[.tmp d1,.tmp d2]:=by rw [←Array.toList_inj];simpa using hca
 have htys:c.argTypes = #[ta,tb]:=by rw [←Array.toList_inj];simpa using hct
 have hex3:(execOp ((a.put (some d1) (.slice (some ⟨b,off,none⟩) n n)).put (some d2) (.slice ad l.length cc)).eval o3).run P w=.ok (.value (goInt (xs.take n).length)) (w.setRow b (vs.toList.take off++xs.take n++vs.toList.drop (off+(xs.take n).length)).toArray):=by
  simp only [execOp,resolve,h3,hc,hargs,htys,invoke,builtin,Sem.run_bind,Sem.run_pure,Result.andThen_ok,List.map_toArray,List.map_cons,List.map_nil]
  rw [he1,he2,hrun]
  rfl
 refine lwp_step fun K3 hK3=>?_
 rw [if_pos (hw o3 _ h3g)]
 refine upon_value' hex3 (hK3 _ _ ?_)
 rw [h3d]
 have hS:∀ x,G.S x→G.S x∧(w.setRow b (vs.toList.take off++xs.take n++vs.toList.drop (off+(xs.take n).length)).toArray).heap[x]? = w.heap[x]? :=
  fun x hx=>⟨hx,setRow_other w b x _ (fun e=>by subst e;exact (hs.colr _ _ hcol).2.2 hx)⟩
 have hs3:=hs2.upd (c:=.box (copied cs off n l)) (vs:=(vs.toList.take off++xs.take n++vs.toList.drop (off+(xs.take n).length)).toArray) hcol ⟨b,_,ty0,hr1,hcol,setRow_heap w b vs _ ty0 _ hb,All2.imp (fun x _ v hv=>ClRep.keep (w:=w) (G:=G) hS (fun _ _=>rfl) hv) ?_⟩
 ·have hs4:=hs3.put (i:=d3) (p:=[]) (x:=.v (.c .any)) (v:=goInt (xs.take n).length) hd3 rfl (fun _=>trivial) (fun hn=>absurd holds_nil hn)
  exact hr m _ _ _ _ _ hs4
 ·-- the cells
  have hk:(xs.take n).length=min n l.length:=by rw [List.length_take,hxlen]
  have hlenC:(copied cs off n l).length=cs.length:=by unfold copied;simp;omega
  refine All2.of_get ?_ fun i cl v hcl hv=>?_
  ·rw [hlenC]
   simp only [List.length_append,List.length_take,List.length_drop] at hk ⊢
   omega
  ·have hi:i<cs.length:=by rw [←hlenC];exact (List.getElem?_eq_some_iff.1 hcl).1
   have hold:∀ cl0,cs[i]? = some cl0→∀ v0,vs.toList[i]? = some v0→ClRep w G cl0 v0:=by
    intro cl0 h4 v0 h5
    obtain ⟨b0,h6,h7⟩:=hall.get i cl0 h4
    rw [h5] at h6
    injection h6 with h6;subst h6
    exact h7
   simp only [List.toArray] at hv
   by_cases hlo:i<off
   ·have hcl':cs[i]? = some cl:=by
     unfold copied at hcl
     rw [List.append_assoc,List.getElem?_append_left (by rw [List.length_take];omega),List.getElem?_take,if_pos hlo] at hcl
     exact hcl
    have hv':vs.toList[i]? = some v:=by
     rw [List.append_assoc,List.getElem?_append_left (by rw [List.length_take];omega),List.getElem?_take,if_pos hlo] at hv
     exact hv
    exact hold cl hcl' v hv'
   ·by_cases hhi:i<off+n
    ·have hcl':cl=Cl.p (.int .i64) (l.getD (i-off) 0):=by
      unfold copied at hcl
      rw [List.append_assoc,List.getElem?_append_right (by rw [List.length_take];omega),List.getElem?_append_left (by simp;omega)] at hcl
      rw [List.length_take,Nat.min_eq_left (by omega),List.getElem?_map,List.getElem?_range (by omega)] at hcl
      simpa using hcl.symm
     subst hcl'
     by_cases hin:i-off<l.length
     ·have hv':xs[i-off]? = some v:=by
       rw [List.append_assoc,List.getElem?_append_right (by rw [List.length_take];omega),List.getElem?_append_left (by rw [List.length_take,List.length_take];omega)] at hv
       rw [List.length_take,Nat.min_eq_left (by omega),List.getElem?_take,if_pos (by omega)] at hv
       exact hv
      obtain ⟨c0,h4,h5⟩:=EncL.get (fun _ _ hh=>Enc.length hh) (i-off) (l.getD (i-off) 0) hxl (by rw [List.getD_eq_getElem?_getD,List.getElem?_eq_getElem hin];rfl)
      have h6:=h4
      obtain ⟨rfl,h7⟩:=h4
      have h8:=h5 0 _ rfl
      simp only [Ty.size,Nat.mul_one,Nat.add_zero] at h8
      rw [h8] at hv'
      injection hv' with hv';subst hv'
      exact h6
     ·have e0:l.getD (i-off) 0=0:=by rw [List.getD_eq_getElem?_getD,List.getElem?_eq_none (by omega)];rfl
      rw [e0]
      have hcs:cs[i]? = some (Cl.p (.int .i64) (0:Int)):=by
       have h4:((cs.drop off).take n)[i-off]? = some (Cl.p (.int .i64) (0:Int)):=by rw [hz,List.getElem?_replicate,if_pos (by omega)]
       rw [List.getElem?_take,if_pos (by omega),List.getElem?_drop] at h4
       rw [←h4];congr 1;omega
      refine hold _ hcs v ?_
      rw [List.getElem?_append_right (by simp only [List.length_append,List.length_take];omega),List.getElem?_drop] at hv
      rw [←hv]
      congr 1
      simp only [List.length_append,List.length_take] at hk ⊢
      omega
    ·have hcl':cs[i]? = some cl:=by
      unfold copied at hcl
      rw [List.getElem?_append_right (by simp;omega),List.getElem?_drop] at hcl
      rw [←hcl];congr 1;simp;omega
     refine hold _ hcl' v ?_
     rw [List.getElem?_append_right (by simp only [List.length_append,List.length_take];omega),List.getElem?_drop] at hv
     rw [←hv]
     congr 1
     simp only [List.length_append,List.length_take] at hk ⊢
     omega
end
end Dec
