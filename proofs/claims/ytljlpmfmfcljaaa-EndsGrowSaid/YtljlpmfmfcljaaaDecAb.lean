/-
Short words for the printed texts.
-/
import Derived.Test.YtljlpmfmfcljaaaDecRc
set_option linter.unusedSimpArgs false
set_option linter.unusedVariables false
namespace Dec
open Go
variable {M : Md → Prop}
abbrev tI : Ty := .int .i64
abbrev Cl.pY (x : Int) : Cl := .p (.int .u8) x
abbrev s1 (i : Nat) (x : Cl) : Nat × Path × AV := (i, [], .v (.c x))
abbrev sI (i : Nat) (x : Int) : Nat × Path × AV := (i, [], .v (.c (.p (.int .i64) x)))
abbrev sB (i : Nat) (x : Bool) : Nat × Path × AV := (i, [], .v (.c (.p .bool x)))
abbrev sp (i r : Nat) : Nat × Path × AV := (i, [], .v (.c (.ptr r 0)))
abbrev hB (r : Nat) (cs : List Cl) : Nat × Path × Con := (r, [], .box cs)
abbrev hA (r : Nat) (e : TypeId) (t : Ty) (l : List t.T) : Nat × Path × Con := (r, [], .arr e t l)
abbrev a3 (x : List Int) : List Int := [x.getD 0 0, x.getD 1 0, x.getD 2 0]
abbrev a4 (x : List Int) : List Int := [x.getD 0 0, x.getD 1 0, x.getD 2 0, x.getD 3 0]
abbrev a5 (x : List Int) : List Int := [x.getD 0 0, x.getD 1 0, x.getD 2 0, x.getD 3 0, x.getD 4 0]
def Ts : Nat → Prop → Prop
  | 0, p => p
  | n + 1, p => True ∧ Ts n p
def Ti : Nat → Prop → Prop → Prop
  | 0, _, p => p
  | n + 1, q, p => q ∧ Ti n q p
theorem tiI : ∀ (n : Nat) {q p : Prop}, q → p → Ti n q p
  | 0, _, _, _, h => h
  | n + 1, _, _, hq, h => ⟨hq, tiI n hq h⟩
theorem tsI : ∀ (n : Nat) {p : Prop}, p → Ts n p
  | 0, _, h => h
  | n + 1, _, h => ⟨trivial, tsI n h⟩
def St.ks (st : St) : List Nat := st.sl.map (·.1)
def St.kh (st : St) : List Nat := st.hp.map (·.1)
section
variable {P : Program} {st : St} {ops : Array Oper} {Q : XE → St → Prop} {D : List Nat}
theorem rq (n : Nat) {l : List Oper} {ob : Prop} {st' : St} (h : runp P ops n l st st'.ks st'.kh = some (ob, st')) (hob : ob) (hr : AWL M P ops (l.drop n) Q st') : AWL M P ops l Q st := awl_runp n _ _ h hob hr
theorem drq (hsel : plainOps ops = true) (is : List Nat) {done done' : List Nat} {ob : Prop} {st' : St} (h : runDp P ops D is done st st'.ks st'.kh = some (ob, done', st')) (hob : ob) (hr : AWD M P ops D done' Q st') : AWD M P ops D done Q st := awd_runp hsel is _ _ h hob hr
theorem lpr {l : List Oper} {st' : St} (h : conv [.prune st'.ks st'.kh] st = some st') (hr : AWL M P ops l Q st') : AWL M P ops l Q st := awl_conv _ h hr
theorem cpr {c : Code} {st' : St} (h : conv [.prune st'.ks st'.kh] st = some st') (hr : AW M P c Q st') : AW M P c Q st := aw_conv _ h hr
theorem sr {id : Nat} {l : List Oper} {y : Code} (h : AWL M P l.toArray l (thenQ (AW M P y Q) Q) st) : AW M P (.seq (.region id l.toArray false) y) Q st := aw_seq (aw_region h)
theorem nn {K : St → Prop} (h : K st) : AWL M P ops [] (thenQ K Q) st := awl_nil (thenQ_n h)
theorem nsr {id : Nat} {l : List Oper} {y : Code} {Q' : XE → St → Prop} (h : AWL M P l.toArray l (thenQ (AW M P y Q) Q) st) : AWL M P ops [] (thenQ (AW M P (.seq (.region id l.toArray false) y) Q) Q') st := nn (sr h)
theorem rqT (n : Nat) {l : List Oper} (st' : St) (h : runp P ops n l st st'.ks st'.kh = some (Ts n True, st')) (hr : AWL M P ops (l.drop n) Q st') : AWL M P ops l Q st := rq n h (tsI n trivial) hr
theorem srn (n : Nat) {id : Nat} {l : List Oper} {y : Code} (st' : St) (h : runp P l.toArray n l st st'.ks st'.kh = some (Ts n True, st')) (he : l.drop n = []) (hr : AW M P y Q st') : AW M P (.seq (.region id l.toArray false) y) Q st :=
  sr (rqT n st' h (he ▸ nn hr))
def callChk (ops : Array Oper) (st : St) (o : Oper) (own : Bool) (tys : List AT) : Option (Nat × Path × FuncId × List V1) :=
  match guardPath ops st o.guard, o.dst, o.op with
  | some p, some d, .call c => if decide (d < st.n) && !onPath d p && pathOk st [] p then match calleeOf st p c, argsOf st p own tys c.args.toList with
    | some (f, cl), some l => some (d, p, f, l ++ cl)
    | _, _ => none
    else none
  | _, _, _ => none
theorem callChk_spec {o : Oper} {own : Bool} {tys : List AT} {d : Nat} {p : Path} {f : FuncId} {l : List V1} (h : callChk ops st o own tys = some (d, p, f, l)) :
    ∃ c l0 cl, guardPath ops st o.guard = some p ∧ o.dst = some d ∧ (decide (d < st.n) && !onPath d p && pathOk st [] p) = true ∧ o.op = .call c ∧ calleeOf st p c = some (f, cl) ∧ argsOf st p own tys c.args.toList = some l0 ∧ l = l0 ++ cl := by
  unfold callChk at h
  split at h
  · rename_i p' d' c hg hd ho
    split at h
    · rename_i hk
      split at h
      · rename_i f' cl l0 hc ha
        injection h with h; injection h with e1 h; injection h with e2 h; injection h with e3 e4
        subst e1 e2 e3 e4
        exact ⟨c, l0, cl, hg, hd, hk, ho, hc, ha, rfl⟩
      · cases h
    · cases h
  · cases h
theorem lcq {σ : Type} {o : Oper} {rest : List Oper} {d : Nat} {f : FuncId} {l : List V1} {k : σ → Prop} {R : σ → List V1} (tys : List AT) (S : σ → St) (hc : callChk ops st o false tys = some (d, [], f, l)) (hf : FnOk P f)
    (hS : ∀ y, (st.put d [] (resAV (R y))).keep (S y).ks (S y).kh = S y) (hT : ACalls P f l (fun res => ∃ y, res = R y ∧ k y)) (hrest : ∀ y, k y → AWL M P ops rest Q (S y)) : AWL M P ops (o :: rest) Q st := by
  obtain ⟨c, l0, cl, hg, hd, hk, ho, hcl, ha, rfl⟩ := callChk_spec hc
  have key : ∀ y, k y → AWL M P ops rest Q (st.put d [] (resAV (R y))) := fun y hy => awl_conv [.prune (S y).ks (S y).kh] rfl (by have := hrest y hy; rw [← hS y] at this; exact this)
  refine awl_call false tys hg hd hk ho hcl hf ha (fun _ => hT.mono ?_) (fun hb => by simp [pathB] at hb)
  rintro r ⟨y, rfl, hy⟩
  exact ⟨fun h => (by cases h), key y hy⟩
theorem dcq {σ : Type} {i : Nat} {o : Oper} {done : List Nat} {d : Nat} {f : FuncId} {l : List V1} {k : σ → Prop} {R : σ → List V1} (tys : List AT) (S : σ → St) (hi : ops[i]? = some o) (hc : callChk ops st o false tys = some (d, [], f, l)) (hf : FnOk P f)
    (hS : ∀ y, (st.put d [] (resAV (R y))).keep (S y).ks (S y).kh = S y) (hT : ACalls P f l (fun res => ∃ y, res = R y ∧ k y)) (hrest : ∀ y, k y → AWD M P ops D (i :: done) Q (S y)) : ADOp M P ops D done i Q st := by
  obtain ⟨c, l0, cl, hg, hd, hk, ho, hcl, ha, rfl⟩ := callChk_spec hc
  have key : ∀ y, k y → AWD M P ops D (i :: done) Q (st.put d [] (resAV (R y))) := fun y hy => awd_conv [.prune (S y).ks (S y).kh] rfl rfl (by have := hrest y hy; rw [← hS y] at this; exact this)
  refine adop_call false tys hi hg hd hk ho hcl hf ha (fun _ => hT.mono ?_) (fun hb => by simp [pathB] at hb)
  rintro r ⟨y, rfl, hy⟩
  exact ⟨fun h => (by cases h), key y hy⟩
end
end Dec
