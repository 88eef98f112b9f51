/-
Grammars: plain contracts of Check, derive, Reachable and of the reference's checks. The table of the names that derive each stretch of a word: plain contracts.
-/
import Derived.Test.YtljlpmfmfcljaaaGenUd
import Derived.Test.YtljlpmfmfcljaaaPop
set_option linter.unusedSimpArgs false
set_option linter.unusedVariables false
namespace Dec
open Go Go.Proofs
abbrev Rl:=Int×List Int
abbrev Gr:=Int×(Int×(Int×List Rl))
structure GoodG (g:Gr):Prop where
 k:1≤g.1∧g.1≤3
 n:1≤g.2.1∧g.2.1≤5
 few:g.2.2.2.length≤10
 short:∀ r∈g.2.2.2,r.2.length≤4
 start:0≤g.2.2.1∧g.2.2.1<g.2.1
 left:∀ r∈g.2.2.2,0≤r.1∧r.1<g.2.1
 right:∀ r∈g.2.2.2,∀ s∈r.2,0≤s∧s<g.1+g.2.1
theorem gcall_both {α:Type} {b:Bool} {F:(α→Prop)→Prop} {d:α} {K:α→Prop} (h1:b=true→F K) (h0:b=false→K d):gcall (α:=α) b F d K:=by
 unfold gcall
 cases b with
 | true=>rw [if_pos rfl];exact h1 rfl
 | false=>rw [if_neg (by decide)];exact h0 rfl
theorem VC37_of {n low high:Int} {K:Bool→Prop} (h:K (decide (low≤n)&&decide (n≤high))):VC37 n low high K:=h
theorem VC38_of {s:List Rl} {F:Rl→(Bool→Prop)→Prop} {K:Bool→Prop} (f:Rl→Bool) (hl:s.length≤4611686018427387904) (hF:∀ x∈s,∀ K':Bool→Prop,K' (f x)→F x K') (h:K (s.any f)):VC38 s F K:=VCany_of f hl hF h
theorem VC35_of {s:List Int} {F:Int→(Bool→Prop)→Prop} {K:Bool→Prop} (f:Int→Bool) (hl:s.length≤4611686018427387904) (hF:∀ x∈s,∀ K':Bool→Prop,K' (f x)→F x K') (h:K (s.any f)):VC35 s F K:=VCany_of f hl hF h
theorem VC40_of {g:Gr} {l:List Int} (hk:1≤g.1∧g.1≤3) (hn:1≤g.2.1∧g.2.1≤5) (hl:l.length≤4) {K:Bool→Prop} (h:K (!l.any fun s=>decide (s<0)||decide (g.1+g.2.1≤s))):VC40 g l K:=by
 unfold VC40
 refine VC35_of (fun s=>decide (s<0)||decide (g.1+g.2.1≤s)) (by omega) (fun x _ K' hK'=>?_) h
 unfold VC53
 exact ⟨fun _=>⟨by omega,by omega⟩,hK'⟩
theorem signs_iff {g:Gr} {l:List Int} : (!l.any fun s=>decide (s<0)||decide (g.1+g.2.1≤s))=true↔∀ s∈l,0≤s∧s<g.1+g.2.1:=by
 rw [Bool.not_eq_true',List.any_eq_false]
 constructor
 ·intro h s hs
  have:=h s hs
  simp only [Bool.or_eq_true,decide_eq_true_eq] at this
  omega
 ·intro h s hs
  have:=h s hs
  simp only [Bool.or_eq_true,decide_eq_true_eq]
  omega
theorem VC25_of {g:Gr} {K:Int→Prop} (hbad:∀ e,e≠0→¬GoodG g→K e) (h:GoodG g→K 0):VC25 g K:=by
 unfold VC25
 refine VC37_of ?_
 refine gcall_both (fun e=>VC37_of ?_) (fun e=>?_)
 ·simp only [Bool.not_not,Bool.and_eq_true,decide_eq_true_eq] at e
  have e1:(decide ((1:Int)≤g.1)&&decide (g.1≤3))=true:=by simp [e.1,e.2]
  rw [e1]
  refine ⟨fun hc=>hbad 1 (by decide) fun hg=>?_,fun hc=>?_⟩
  ·simp only [Bool.not_true,Bool.false_or,Bool.or_eq_true,Bool.not_eq_true',Bool.and_eq_false_iff,decide_eq_false_iff_not,decide_eq_true_eq] at hc
   have h1:=hg.n
   have h2:=hg.few
   omega
  ·simp only [Bool.not_true,Bool.false_or,Bool.or_eq_false_iff,Bool.not_eq_false',Bool.and_eq_true,decide_eq_false_iff_not,decide_eq_true_eq] at hc
   obtain ⟨hn,hfew⟩:=hc
   have hfew:g.2.2.2.length≤10:=by omega
   refine VC38_of (fun r=>decide ((4:Int)<(r.2.length:Int))) (by omega) (fun x _ K' hK'=>hK') ⟨fun hs=>hbad 1 (by decide) fun hg=>?_,fun hs=>?_⟩
   ·obtain ⟨r,hr,h4⟩:=List.any_eq_true.1 hs
    simp only [decide_eq_true_eq] at h4
    have:=hg.short r hr
    omega
   ·have hshort:∀ r∈g.2.2.2,r.2.length≤4:=by
     intro r hr
     have:=List.any_eq_false.1 hs r hr
     simp only [decide_eq_true_eq] at this
     omega
    refine ⟨⟨by omega,by omega⟩,VC37_of ⟨fun hc=>hbad 2 (by decide) fun hg=>?_,fun hc=>?_⟩⟩
    ·simp only [Bool.not_eq_true',Bool.and_eq_false_iff,decide_eq_false_iff_not] at hc
     have:=hg.start
     omega
    ·simp only [Bool.not_eq_false',Bool.and_eq_true,decide_eq_true_eq] at hc
     refine loop_count g.2.2.2.length (fun i=>∀ j,j<i→(0≤(g.2.2.2.getD j (0,[])).1∧(g.2.2.2.getD j (0,[])).1<g.2.1)∧∀ s∈(g.2.2.2.getD j (0,[])).2,0≤s∧s<g.1+g.2.1) (by intro j hj;omega) ?_
     intro i hi hP X hX
     unfold VC25_l1 VC25_k1
     refine ⟨fun hb=>?_,fun hb=>?_⟩
     ·simp only [decide_eq_true_eq] at hb
      simp only [Int.toNat_natCast]
      have hmem:g.2.2.2.getD i (0,[])∈g.2.2.2:=getD_mem (by omega)
      refine ⟨⟨by omega,by omega⟩,⟨by omega,by omega⟩,VC37_of ?_⟩
      refine gcall_both (fun e2=>VC40_of e hn (hshort _ hmem) ?_) (fun e2=>?_)
      ·simp only [Bool.not_not] at e2
       rw [e2]
       simp only [Bool.and_eq_true,decide_eq_true_eq] at e2
       refine ⟨fun hc2=>hbad 2 (by decide) fun hg=>?_,fun hc2=>⟨⟨by omega,by omega⟩,hX (by omega) fun j hj=>?_⟩⟩
       ·simp only [Bool.not_true,Bool.false_or,Bool.not_eq_true'] at hc2
        have:=signs_iff.2 (hg.right _ hmem)
        rw [hc2] at this
        cases this
       ·by_cases e3:j<i
        ·exact hP j e3
        ·have:j=i:=by omega
         subst this
         simp only [Bool.not_true,Bool.false_or,Bool.not_eq_false'] at hc2
         exact ⟨⟨e2.1,by omega⟩,signs_iff.1 hc2⟩
      ·simp only [Bool.not_not] at e2
       rw [e2]
       refine ⟨fun _=>hbad 2 (by decide) fun hg=>?_,fun hc2=>by simp at hc2⟩
       simp only [Bool.and_eq_false_iff,decide_eq_false_iff_not] at e2
       have:=hg.left _ hmem
       omega
     ·simp only [decide_eq_false_iff_not] at hb
      have hall:∀ r∈g.2.2.2,(0≤r.1∧r.1<g.2.1)∧∀ s∈r.2,0≤s∧s<g.1+g.2.1:=by
       intro r hr
       obtain ⟨j,hj,ej⟩:=List.mem_iff_getElem.1 hr
       have:=hP j (by omega)
       rw [getD_lt _ hj,ej] at this
       exact this
      exact h ⟨e,hn,hfew,hshort,⟨hc.1,by omega⟩,fun r hr=>(hall r hr).1,fun r hr=>(hall r hr).2⟩
 ·simp only [Bool.not_not] at e
  rw [e]
  refine ⟨fun _=>hbad 1 (by decide) fun hg=>?_,fun hc=>by simp at hc⟩
  simp only [Bool.and_eq_false_iff,decide_eq_false_iff_not] at e
  have:=hg.k
  omega
end Dec
namespace Dec
open Go Go.Proofs Cfg
def GoodW (k:Int) (w:List Int):Prop:=w.length≤12∧∀ s∈w,0≤s∧s<k
theorem VC21_of {k:Int} {w:List Int} (hk:1≤k∧k≤3) {K:Int→Prop} (hbad:∀ e,e≠0→¬GoodW k w→K e) (h:GoodW k w→K 0):VC21 k w K:=by
 unfold VC21
 refine ⟨fun hc=>hbad 1 (by decide) fun hg=>?_,fun hc=>?_⟩
 ·simp only [decide_eq_true_eq] at hc
  have:=hg.1
  omega
 ·simp only [decide_eq_false_iff_not] at hc
  refine VC35_of (fun s=>!(decide (0≤s)&&decide (s≤k-1))) (by omega) (fun x _ K' hK'=>⟨⟨by omega,by omega⟩,hK'⟩) ⟨fun hs=>hbad 2 (by decide) fun hg=>?_,fun hs=>h ⟨by omega,fun s hm=>?_⟩⟩
  ·obtain ⟨s,hm,h1⟩:=List.any_eq_true.1 hs
   have:=hg.2 s hm
   simp only [Bool.not_eq_true',Bool.and_eq_false_iff,decide_eq_false_iff_not] at h1
   omega
  ·have:=List.any_eq_false.1 hs s hm
   simp only [Bool.not_eq_true',Bool.not_eq_false,Bool.and_eq_true,decide_eq_true_eq] at this
   omega
theorem VC66_of {g:Gr} {w:List Int} {K:Int→Prop} (hbad:∀ e,e≠0→¬(GoodG g∧GoodW g.1 w)→K e) (h:GoodG g→GoodW g.1 w→K 0):VC66 g w K:=by
 unfold VC66
 refine VC25_of (fun e he hn=>⟨fun _=>hbad e he fun hg=>hn hg.1,fun hc=>absurd (by simpa using hc) he⟩) (fun hg=>⟨fun hc=>by simp at hc,fun _=>?_⟩)
 exact VC21_of hg.k (fun e he hn=>hbad e he fun hh=>hn hh.2) (h hg)
end Dec
