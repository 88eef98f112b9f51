/-
Counting below a bound, sets of names as words: plain Lean. Regular expressions: plain contracts of the checks, of match and of Takes.
-/
import Derived.Test.YtckghdhnmpnljaaGlyA
import Derived.Test.YtckghdhnmpnljaaGenSc
set_option linter.unusedSimpArgs false
set_option linter.unusedVariables false
namespace Dec
open Go
open Classical in
noncomputable def howMany (P:Nat→Prop):Nat→Nat
 | 0=>0
 | t+1=>howMany P t+if P t then 1 else 0
theorem howMany_le (P:Nat→Prop):∀ t,howMany P t≤t
 | 0=>Nat.le_refl _
 | t+1=>by have:=howMany_le P t;unfold howMany;split <;> omega
theorem howMany_mono {P Q:Nat→Prop} : ∀ t,(∀ i,i<t→P i→Q i)→howMany P t≤howMany Q t
 | 0,_=>Nat.le_refl _
 | t+1,h=>by
  have:=howMany_mono t fun i hi=>h i (by omega)
  have h2:=h t (by omega)
  unfold howMany
  by_cases hp:P t
  ·rw [if_pos hp,if_pos (h2 hp)];omega
  ·rw [if_neg hp];omega
theorem howMany_lt {P Q:Nat→Prop} : ∀ t,(∀ i,i<t→P i→Q i)→(∃ i,i<t∧Q i∧¬P i)→howMany P t<howMany Q t
 | 0,_,⟨i,hi,_⟩=>absurd hi (by omega)
 | t+1,h,⟨i,hi,hq,hp⟩=>by
  have h0:=howMany_mono t fun i hi=>h i (by omega)
  have h2:=h t (by omega)
  unfold howMany
  by_cases hit:i=t
  ·subst hit
   rw [if_neg hp,if_pos hq];omega
  ·have:=howMany_lt t (fun i hi=>h i (by omega)) ⟨i,by omega,hq,hp⟩
   by_cases hpt:P t
   ·rw [if_pos hpt,if_pos (h2 hpt)];omega
   ·rw [if_neg hpt];omega
end Dec
namespace Dec
open Go Go.Proofs Rex
theorem gcall_both {α:Type} {b:Bool} {F:(α→Prop)→Prop} {d:α} {K:α→Prop} (h1:b=true→F K) (h0:b=false→K d):gcall (α:=α) b F d K:=by
 unfold gcall
 cases b with
 | true=>rw [if_pos rfl];exact h1 rfl
 | false=>rw [if_neg (by decide)];exact h0 rfl
theorem VC85_of {k:Int} {t:Nat} {n:Nd} {K:Int→Prop} (hbad:∀ e,e≠0→¬OkN k t n→K e) (h:OkN k t n→K 0):VC85 k (t:Int) n K:=by
 have fin:OkN k t n→VC85_k2 K:=fun ho=>h ho
 unfold VC85
 have k1:∀ b:Bool,(b=true→n.1=1∨n.1=2)→(b=false→n.1≠1∧n.1≠2)→VC85_k1 k (t:Int) n K b:=by
  intro b hb1 hb0
  unfold VC85_k1
  refine ⟨fun e=>h ?_,fun e=>?_⟩
  ·rcases hb1 e with h1 | h1
   ·exact Or.inl h1
   ·exact Or.inr (Or.inl h1)
  have h12:=hb0 e
  refine ⟨fun h3=>?_,fun h3=>?_⟩
  ·simp only [decide_eq_true_eq] at h3
   refine ⟨fun hc=>hbad 2 (by decide) fun ho=>?_,fun hc=>fin ?_⟩
   ·simp only [Bool.or_eq_true,decide_eq_true_eq] at hc
    unfold OkN at ho
    omega
   ·simp only [Bool.or_eq_false_iff,decide_eq_false_iff_not] at hc
    exact Or.inr (Or.inr (Or.inl ⟨h3,by omega,by omega⟩))
  ·simp only [decide_eq_false_iff_not] at h3
   have k3:∀ b:Bool,(b=true→n.1=4∨n.1=5)→(b=false→n.1≠4∧n.1≠5)→VC85_k3 (t:Int) n K b:=by
    intro b hb1 hb0
    unfold VC85_k3 VC101 VC85_k4
    refine ⟨fun e=>?_,fun e=>?_⟩
    ·have h45:=hb1 e
     refine gcall_both (fun e1=>?_) (fun e1=>?_)
     ·simp only [Bool.not_not] at e1
      rw [e1]
      simp only [Bool.and_eq_true,decide_eq_true_eq] at e1
      refine ⟨fun hc=>hbad 2 (by decide) fun ho=>?_,fun hc=>fin ?_⟩
      ·simp only [Bool.not_true,Bool.false_or,Bool.not_eq_true',Bool.and_eq_false_iff,decide_eq_false_iff_not] at hc
       unfold OkN at ho
       omega
      ·simp only [Bool.not_true,Bool.false_or,Bool.not_eq_false',Bool.and_eq_true,decide_eq_true_eq] at hc
       exact Or.inr (Or.inr (Or.inr (Or.inl ⟨h45,e1,hc⟩)))
     ·simp only [Bool.not_not] at e1
      rw [e1]
      simp only [Bool.and_eq_false_iff,decide_eq_false_iff_not] at e1
      refine ⟨fun _=>hbad 2 (by decide) fun ho=>?_,fun hc=>by simp at hc⟩
      unfold OkN at ho
      omega
    ·have h45:=hb0 e
     refine ⟨fun h6=>⟨fun hc=>hbad 2 (by decide) fun ho=>?_,fun hc=>fin ?_⟩,fun h6=>hbad 6 (by decide) fun ho=>?_⟩
     ·simp only [decide_eq_true_eq] at h6
      simp only [Bool.not_eq_true',Bool.and_eq_false_iff,decide_eq_false_iff_not] at hc
      unfold OkN at ho
      omega
     ·simp only [decide_eq_true_eq] at h6
      simp only [Bool.not_eq_false',Bool.and_eq_true,decide_eq_true_eq] at hc
      exact Or.inr (Or.inr (Or.inr (Or.inr ⟨h6,hc⟩)))
     ·simp only [decide_eq_false_iff_not] at h6
      unfold OkN at ho
      omega
   refine ⟨fun h4=>k3 _ (fun e=>Or.inl (by simpa using e)) (fun e=>?_),fun h4=>k3 _ (fun e=>Or.inr (by simpa using e)) (fun e=>?_)⟩
   ·rw [h4] at e;cases e
   ·simp only [decide_eq_false_iff_not] at h4 e
    exact ⟨h4,e⟩
 refine ⟨fun h1=>k1 _ (fun e=>Or.inl (by simpa using e)) (fun e=>?_),fun h1=>k1 _ (fun e=>Or.inr (by simpa using e)) (fun e=>?_)⟩
 ·rw [h1] at e;cases e
 ·simp only [decide_eq_false_iff_not] at h1 e
  exact ⟨h1,e⟩
theorem VC45_of {k:Int} {l:List Nd} {K:Int→Prop} (hbad:∀ e,e≠0→¬Good k l→K e) (h:Good k l→K 0):VC45 k l K:=by
 unfold VC45
 refine ⟨fun hc=>hbad 1 (by decide) fun hg=>?_,fun hc=>?_⟩
 ·simp only [Bool.or_eq_true,decide_eq_true_eq] at hc
  have h1:=hg.sym
  have h2:=hg.len
  omega
 ·simp only [Bool.or_eq_false_iff,decide_eq_false_iff_not] at hc
  refine loop_count l.length (fun i=>∀ j,j<i→OkN k j (nd l j)) (by intro j hj;omega) ?_
  intro i hi hP X hX
  unfold VC45_l1 VC45_k1
  refine ⟨fun hb=>?_,fun hb=>?_⟩
  ·simp only [decide_eq_true_eq] at hb
   rw [Int.toNat_natCast]
   refine ⟨⟨by omega,by omega⟩,VC85_of (fun e he hno=>⟨fun _=>hbad e he fun hg=>hno (hg.ok i (by omega)),fun hz=>absurd (by simpa using hz) he⟩) (fun ho=>⟨fun hz=>by simp at hz,fun _=>⟨⟨by omega,by omega⟩,hX (by omega) fun j hj=>?_⟩⟩)⟩
   by_cases e:j<i
   ·exact hP j e
   ·have:j=i:=by omega
    subst this;exact ho
  ·simp only [decide_eq_false_iff_not] at hb
   exact h ⟨by omega,by omega,fun t ht=>hP t (by omega)⟩
/-! ### rows of sets of places -/
structure RowR (n:Nat) (R:Nat→Nat→Prop) (r:List Int):Prop where
 len:r.length=n+1
 word:∀ i,i≤n→U32 (r.getD i 0)
 bit:∀ i j,i≤n→(bt (r.getD i 0) j=true↔j≤n∧R i j)
theorem RowR.congr {n:Nat} {R S:Nat→Nat→Prop} {r:List Int} (h:RowR n R r) (hRS:∀ i j,i≤n→j≤n→(R i j↔S i j)):RowR n S r :=
 ⟨h.len,h.word,fun i j hi=>by
  rw [h.bit i j hi]
  constructor
  ·rintro ⟨h1,h2⟩;exact ⟨h1,(hRS i j hi h1).1 h2⟩
  ·rintro ⟨h1,h2⟩;exact ⟨h1,(hRS i j hi h1).2 h2⟩⟩
theorem getD_setI {l:List Int} {i j:Nat} {x:Int} (h:i<l.length):(l.set i x).getD j 0=if i=j then x else l.getD j 0:=by
 simp only [List.getD,List.getElem?_set]
 by_cases e:i=j
 ·rw [if_pos e,if_pos e,if_pos h];rfl
 ·rw [if_neg e,if_neg e]
theorem VC44_of {s n:Int} (hs:U32 s) (hn:0≤n) {K:Bool→Prop} (h:K (bt s n.toNat)):VC44 s n K:=by
 unfold VC44
 rw [has_bt hs hn]
 exact ⟨⟨hs.1,hn⟩,h⟩
end Dec
