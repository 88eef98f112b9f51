/-
The trees of a sign over a stretch, in order: as lists of steps (plain Lean, no program in sight).
-/
import Derived.Test.YtljlpmfmfcljaaaPop
set_option linter.unusedSimpArgs false
set_option linter.unusedVariables false
namespace Cfg
def cutsL:Nat→Nat→Nat→List (List Nat)
 | 0,_,_=>[]
 | 1,_,j=>[[j]]
 | n+2,i,j=>((List.range (j-(i+1))).map (· + (i+1))).flatMap fun m=>(cutsL (n+1) m j).map (m::·)
theorem cutsL_succ (n i j:Nat):cutsL (n+2) i j=((List.range (j-(i+1))).map (· + (i+1))).flatMap fun m=>(cutsL (n+1) m j).map (m::·):=rfl
def prodT (S:Int→Nat→Nat→List (List Int)):List Int→Nat→List Nat→List (List Int)
 | [],_,_=>[[]]
 | _::_,_,[]=>[]
 | s::l,i,e::es=>(S s i e).flatMap fun a=>(prodT S l e es).map (a++·)
def rowT (S:Int→Nat→Nat→List (List Int)) (l:List Int) (i j:Nat):List (List Int):=(cutsL l.length i j).flatMap fun es=>prodT S l i es
def sgnT (K:Int) (R:Rules) (w:List Int):Nat→Int→Nat→Nat→List (List Int)
 | 0,s,i,j=>if s<K then (if j=i+1∧w[i]? = some s then [[]] else []) else []
 | f+1,s,i,j =>
  if s<K then (if j=i+1∧w[i]? = some s then [[]] else [])
  else (List.range R.length).flatMap fun k=>if (R.getD k (0,[])).1=s-K then (rowT (sgnT K R w f) (R.getD k (0,[])).2 i j).map ((k:Int)::·) else []
theorem length_flatMap' {α β:Type} (l:List α) (f:α→List β):(l.flatMap f).length=(l.map fun x=>(f x).length).sum:=by
 induction l with
 | nil=>rfl
 | cons x l ih=>simp [List.flatMap_cons,ih]
theorem prodT_len (S:Int→Nat→Nat→List (List Int)) (s:Int) (l:List Int) (i e:Nat) (es:List Nat):(prodT S (s::l) i (e::es)).length=(S s i e).length*(prodT S l e es).length:=by
 show ((S s i e).flatMap fun a=>(prodT S l e es).map (a++·)).length=_
 rw [length_flatMap']
 simp only [List.length_map]
 induction S s i e with
 | nil=>simp
 | cons x t ih=>simp only [List.map_cons,List.sum_cons,ih,List.length_cons];rw [Nat.add_mul,Nat.one_mul,Nat.add_comm]
theorem sum_mul (l:List Nat) (c:Nat):(l.map (c * ·)).sum=c*l.sum:=by
 induction l with
 | nil=>simp
 | cons x t ih=>simp only [List.map_cons,List.sum_cons,ih,Nat.mul_add]
theorem rowT_len (S:Int→Nat→Nat→List (List Int)) (s t:Int) (l:List Int) (i j:Nat) :
  (rowT S (s::t::l) i j).length=(((List.range (j-(i+1))).map (· + (i+1))).map fun m=>(S s i m).length*(rowT S (t::l) m j).length).sum:=by
 unfold rowT
 rw [length_flatMap']
 show ((cutsL (l.length+2) i j).map _).sum=(_:List Nat).sum
 rw [cutsL_succ]
 generalize (List.range (j-(i+1))).map (· + (i+1))=ms
 induction ms with
 | nil=>simp
 | cons m ms ih =>
  simp only [List.flatMap_cons,List.map_append,List.sum_append,List.map_cons,List.sum_cons]
  rw [ih]
  congr 1
  rw [length_flatMap',←sum_mul,List.map_map,List.map_map]
  congr 1
  refine List.map_congr_left fun es _=>?_
  simp only [Function.comp]
  exact prodT_len S s (t::l) i m es
theorem rowT_one (S:Int→Nat→Nat→List (List Int)) (s:Int) (i j:Nat):(rowT S [s] i j).length=(S s i j).length:=by
 unfold rowT
 show ((cutsL 1 i j).flatMap fun es=>prodT S [s] i es).length=_
 unfold cutsL
 simp only [List.flatMap_cons,List.flatMap_nil,List.append_nil]
 rw [prodT_len]
 simp [prodT]
theorem cutsL_mem:∀ (n i j:Nat) (es:List Nat),es∈cutsL n i j→es.length=n∧∃ z,es.getLast? = some z∧z=j
 | 0,_,_,es,h=>by simp [cutsL] at h
 | 1,i,j,es,h=>by
  simp [cutsL] at h
  subst h
  exact ⟨rfl,j,rfl,rfl⟩
 | n+2,i,j,es,h=>by
  rw [cutsL_succ,List.mem_flatMap] at h
  obtain ⟨m,_,h⟩:=h
  obtain ⟨t,ht,rfl⟩:=List.mem_map.1 h
  obtain ⟨h1,z,h2,h3⟩:=cutsL_mem (n+1) m j t ht
  refine ⟨by simp [h1],z,?_,h3⟩
  cases t with
  | nil=>simp at h1
  | cons q t=>rw [List.getLast?_cons_cons];exact h2
section
variable {K:Int} {R:Rules} {w:List Int}
def Tells (S:Int→Nat→Nat→List (List Int)):Prop:=∀ s i j j' a b x y,a∈S s i j→b∈S s i j'→a++x=b++y→a=b∧x=y∧j=j'
theorem prod_tells {S:Int→Nat→Nat→List (List Int)} (hS:Tells S):∀ (l:List Int) (i:Nat) (es es':List Nat) (a b x y:List Int),es.length=l.length→es'.length=l.length→a∈prodT S l i es→b∈prodT S l i es'→a++x=b++y→a=b∧x=y∧es=es'
 | [],i,es,es',a,b,x,y,h1,h2,ha,hb,he=>by
  have e1:=List.length_eq_zero_iff.1 h1
  have e2:=List.length_eq_zero_iff.1 h2
  subst e1 e2
  simp [prodT] at ha hb
  subst ha hb
  exact ⟨rfl,he,rfl⟩
 | s::l,i,[],es',a,b,x,y,h1,h2,ha,hb,he=>by simp at h1
 | s::l,i,e::es,[],a,b,x,y,h1,h2,ha,hb,he=>by simp at h2
 | s::l,i,e::es,e'::es',a,b,x,y,h1,h2,ha,hb,he=>by
  simp only [prodT,List.mem_flatMap,List.mem_map] at ha hb
  obtain ⟨a1,ha1,a2,ha2,rfl⟩:=ha
  obtain ⟨b1,hb1,b2,hb2,rfl⟩:=hb
  rw [List.append_assoc,List.append_assoc] at he
  obtain ⟨r1,r2,r3⟩:=hS s i e e' a1 b1 _ _ ha1 hb1 he
  subst r1 r3
  obtain ⟨q1,q2,q3⟩:=prod_tells hS l e es es' a2 b2 x y (by simpa using h1) (by simpa using h2) ha2 hb2 r2
  subst q1 q3
  exact ⟨rfl,q2,rfl⟩
theorem row_tells {S:Int→Nat→Nat→List (List Int)} (hS:Tells S) {l:List Int} {i j j':Nat} {a b x y:List Int} (ha:a∈rowT S l i j) (hb:b∈rowT S l i j') (he:a++x=b++y):a=b∧x=y∧j=j':=by
 unfold rowT at ha hb
 obtain ⟨es,h1,h2⟩:=List.mem_flatMap.1 ha
 obtain ⟨es',h3,h4⟩:=List.mem_flatMap.1 hb
 obtain ⟨k1,z,k2,k3⟩:=cutsL_mem _ _ _ _ h1
 obtain ⟨k4,z',k5,k6⟩:=cutsL_mem _ _ _ _ h3
 obtain ⟨q1,q2,q3⟩:=prod_tells hS l i es es' a b x y k1 k4 h2 h4 he
 subst q3
 rw [k2] at k5
 refine ⟨q1,q2,?_⟩
 rw [←k3,←k6]
 exact Option.some.inj k5
theorem sgnT_name {f:Nat} {s:Int} {i j:Nat} (hs:¬s<K):sgnT K R w (f+1) s i j=(List.range R.length).flatMap fun k=>if (R.getD k (0,[])).1=s-K then (rowT (sgnT K R w f) (R.getD k (0,[])).2 i j).map ((k:Int)::·) else []:=by
 rw [sgnT,if_neg hs]
theorem sgnT_sym {f:Nat} {s:Int} {i j:Nat} (hs:s<K):sgnT K R w f s i j=if j=i+1∧w[i]? = some s then [[]] else []:=by
 cases f <;> rw [sgnT,if_pos hs]
theorem mem_name {f:Nat} {s:Int} {i j:Nat} (hs:¬s<K) {a:List Int} (h:a∈sgnT K R w (f+1) s i j):∃ k,k<R.length∧(R.getD k (0,[])).1=s-K∧∃ a',a'∈rowT (sgnT K R w f) (R.getD k (0,[])).2 i j∧a=(k:Int)::a':=by
 rw [sgnT_name hs] at h
 obtain ⟨k,hk,h⟩:=List.mem_flatMap.1 h
 by_cases e:(R.getD k (0,[])).1=s-K
 ·rw [if_pos e] at h
  obtain ⟨a',h1,h2⟩:=List.mem_map.1 h
  exact ⟨k,List.mem_range.1 hk,e,a',h1,h2.symm⟩
 ·rw [if_neg e] at h
  cases h
theorem sgn_tells:∀ f:Nat,Tells (sgnT K R w f)
 | f,s,i,j,j',a,b,x,y,ha,hb,he=>by
  by_cases hs:s<K
  ·rw [sgnT_sym hs] at ha hb
   split at ha
   ·rename_i h1
    split at hb
    ·rename_i h2
     simp at ha hb
     subst ha hb
     exact ⟨rfl,he,by omega⟩
    ·cases hb
   ·cases ha
  ·cases f with
   | zero=>rw [sgnT,if_neg hs] at ha;cases ha
   | succ f =>
    obtain ⟨k,_,_,a',h3,rfl⟩:=mem_name hs ha
    obtain ⟨k',_,_,b',h6,rfl⟩:=mem_name hs hb
    simp only [List.cons_append,List.cons.injEq] at he
    have e:k=k':=by omega
    subst e
    obtain ⟨q1,q2,q3⟩:=row_tells (sgn_tells f) h3 h6 he.2
    exact ⟨by rw [q1],q2,q3⟩
theorem cutsL_nodup:∀ (n i j:Nat),(cutsL n i j).Pairwise (·≠·)
 | 0,_,_=>by simp [cutsL]
 | 1,_,_=>by simp [cutsL]
 | n+2,i,j=>by
  rw [cutsL_succ,List.pairwise_flatMap]
  refine ⟨fun m _=>?_,?_⟩
  ·rw [List.pairwise_map]
   refine List.Pairwise.imp ?_ (cutsL_nodup (n+1) m j)
   intro a b hab e
   injection e with _ e
   exact hab e
  ·rw [List.pairwise_map]
   refine List.Pairwise.imp ?_ (List.pairwise_lt_range (n:=j-(i+1)))
   intro a b hab x hx y hy e
   obtain ⟨_,_,rfl⟩:=List.mem_map.1 hx
   obtain ⟨_,_,rfl⟩:=List.mem_map.1 hy
   injection e with e _
   omega
theorem prod_nodup {S:Int→Nat→Nat→List (List Int)} (hS:Tells S) (hn:∀ s i j,(S s i j).Pairwise (·≠·)):∀ (l:List Int) (i:Nat) (es:List Nat),(prodT S l i es).Pairwise (·≠·)
 | [],_,_=>by simp [prodT]
 | _::_,_,[]=>by simp [prodT]
 | s::l,i,e::es=>by
  simp only [prodT]
  rw [List.pairwise_flatMap]
  refine ⟨fun a _=>?_,?_⟩
  ·rw [List.pairwise_map]
   refine List.Pairwise.imp ?_ (prod_nodup hS hn l e es)
   intro x y hxy h
   exact hxy (List.append_cancel_left h)
  ·refine List.Pairwise.imp_of_mem ?_ (hn s i e)
   intro a b ha hb hab x hx y hy h
   obtain ⟨u,_,rfl⟩:=List.mem_map.1 hx
   obtain ⟨v,_,rfl⟩:=List.mem_map.1 hy
   exact hab (hS s i e e a b u v ha hb h).1
theorem row_nodup {S:Int→Nat→Nat→List (List Int)} (hS:Tells S) (hn:∀ s i j,(S s i j).Pairwise (·≠·)) (l:List Int) (i j:Nat):(rowT S l i j).Pairwise (·≠·):=by
 unfold rowT
 rw [List.pairwise_flatMap]
 refine ⟨fun es _=>prod_nodup hS hn l i es,?_⟩
 refine List.Pairwise.imp_of_mem ?_ (cutsL_nodup l.length i j)
 intro es es' h1 h2 hne x hx y hy h
 exact hne (prod_tells hS l i es es' x y [] [] (cutsL_mem _ _ _ _ h1).1 (cutsL_mem _ _ _ _ h2).1 hx hy (by rw [h])).2.2
def Rise (a b:List Int):Prop:=a≠b∧∀ x y ta tb,a=x::ta→b=y::tb→x≤y
theorem sgn_rise:∀ (f:Nat) (s:Int) (i j:Nat),(sgnT K R w f s i j).Pairwise Rise
 | f,s,i,j=>by
  by_cases hs:s<K
  ·rw [sgnT_sym hs]
   split <;> simp
  ·cases f with
   | zero=>rw [sgnT,if_neg hs];exact List.Pairwise.nil
   | succ f =>
    rw [sgnT_name hs,List.pairwise_flatMap]
    refine ⟨fun k _=>?_,?_⟩
    ·split
     ·rw [List.pairwise_map]
      refine List.Pairwise.imp ?_ (row_nodup (sgn_tells f) (fun s i j=>List.Pairwise.imp (fun h=>h.1) (sgn_rise f s i j)) _ i j)
      intro a b hab
      refine ⟨fun h=>hab (by injection h),?_⟩
      intro x y ta tb h1 h2
      injection h1 with h1 _
      injection h2 with h2 _
      omega
     ·exact List.Pairwise.nil
    ·refine List.Pairwise.imp ?_ (List.pairwise_lt_range (n:=R.length))
     intro k k' hk x hx y hy
     split at hx
     ·split at hy
      ·obtain ⟨u,_,rfl⟩:=List.mem_map.1 hx
       obtain ⟨v,_,rfl⟩:=List.mem_map.1 hy
       refine ⟨fun h=>?_,?_⟩
       ·injection h with h _;omega
       ·intro x y ta tb h1 h2
        injection h1 with h1 _
        injection h2 with h2 _
        omega
      ·cases hy
     ·cases hx
theorem flatMap_congr' {α β:Type} {l:List α} {f g:α→List β} (h:∀ x∈l,f x=g x):l.flatMap f=l.flatMap g:=by
 induction l with
 | nil=>rfl
 | cons x l ih=>rw [List.flatMap_cons,List.flatMap_cons,h x List.mem_cons_self,ih fun y hy=>h y (List.mem_cons_of_mem _ hy)]
theorem prodT_in {S S':Int→Nat→Nat→List (List Int)} : ∀ (l:List Int) (i j:Nat),(∀ s a b,i≤a→b≤j→S s a b=S' s a b)→∀ es∈cutsL l.length i j,prodT S l i es=prodT S' l i es
 | [],i,j,h,es,he=>by simp [cutsL] at he
 | [s],i,j,h,es,he=>by
  simp [cutsL] at he
  subst he
  simp only [prodT,h s i j (Nat.le_refl _) (Nat.le_refl _)]
 | s::t::l,i,j,h,es,he=>by
  rw [show (s::t::l).length=l.length+2 from rfl,cutsL_succ,List.mem_flatMap] at he
  obtain ⟨m,hm,he⟩:=he
  obtain ⟨q,hq,rfl⟩:=List.mem_map.1 he
  obtain ⟨z,hz,rfl⟩:=List.mem_map.1 hm
  have hz':=List.mem_range.1 hz
  have:=prodT_in (t::l) (z+(i+1)) j (fun s a b h1 h2=>h s a b (by omega) h2) q hq
  show ((S s i (z+(i+1))).flatMap fun a=>(prodT S (t::l) (z+(i+1)) q).map (a++·))=((S' s i (z+(i+1))).flatMap fun a=>(prodT S' (t::l) (z+(i+1)) q).map (a++·))
  rw [h s i (z+(i+1)) (Nat.le_refl _) (by omega),this]
theorem rowT_two {S S':Int→Nat→Nat→List (List Int)} {s t:Int} {l:List Int} {i j:Nat} (h:∀ s a b,i≤a→b≤j→b-a<j-i→S s a b=S' s a b):rowT S (s::t::l) i j=rowT S' (s::t::l) i j:=by
 unfold rowT
 refine flatMap_congr' fun es he=>?_
 rw [show (s::t::l).length=l.length+2 from rfl,cutsL_succ,List.mem_flatMap] at he
 obtain ⟨m,hm,he⟩:=he
 obtain ⟨q,hq,rfl⟩:=List.mem_map.1 he
 obtain ⟨z,hz,rfl⟩:=List.mem_map.1 hm
 have hz':=List.mem_range.1 hz
 have:=prodT_in (S:=S) (S':=S') (t::l) (z+(i+1)) j (fun s a b h1 h2=>h s a b (by omega) h2 (by omega)) q hq
 show ((S s i (z+(i+1))).flatMap fun a=>(prodT S (t::l) (z+(i+1)) q).map (a++·))=((S' s i (z+(i+1))).flatMap fun a=>(prodT S' (t::l) (z+(i+1)) q).map (a++·))
 rw [h s i (z+(i+1)) (Nat.le_refl _) (by omega) (by omega),this]
theorem sgnT_stable (hp:∀ r∈R,r.2≠[]∧∀ s,r.2=[s]→s<K):∀ (f:Nat) (s:Int) (i j:Nat),j-i<f→sgnT K R w (f+1) s i j=sgnT K R w f s i j
 | 0,_,_,_,h=>by omega
 | f+1,s,i,j,h=>by
  by_cases hs:s<K
  ·rw [sgnT_sym hs,sgnT_sym hs]
  ·rw [sgnT_name hs,sgnT_name hs]
   refine flatMap_congr' fun k hk=>?_
   have hk':=List.mem_range.1 hk
   have hmem:R.getD k (0,[])∈R:=by
    rw [List.getD_eq_getElem?_getD,List.getElem?_eq_getElem hk']
    exact List.getElem_mem hk'
   obtain ⟨h1,h2⟩:=hp _ hmem
   have:rowT (sgnT K R w (f+1)) (R.getD k (0,[])).2 i j=rowT (sgnT K R w f) (R.getD k (0,[])).2 i j:=by
    cases hr:(R.getD k (0,[])).2 with
    | nil=>exact absurd hr h1
    | cons x l =>
     cases l with
     | nil =>
      have hx:=h2 x hr
      unfold rowT
      simp [cutsL,prodT,sgnT_sym hx]
     | cons y l=>exact rowT_two fun s a b h3 h4 h5=>sgnT_stable hp f s a b (by omega)
   rw [this]
end
end Cfg
