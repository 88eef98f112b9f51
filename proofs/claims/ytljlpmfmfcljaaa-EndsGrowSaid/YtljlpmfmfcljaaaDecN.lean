/-
Regions whose order is drawn.
-/
import Derived.Test.YtljlpmfmfcljaaaDecM
import Derived.OrdersHeld
set_option linter.unusedSimpArgs false
set_option linter.unusedVariables false
namespace Dec
open Go Go.RowKit
variable {M : Md → Prop}
def lst (n : Nat) : List Nat → Array Bool
  | [] => Array.replicate n false
  | i :: r => (lst n r).setIfInBounds i true
def Nx (D : List Nat) (G : Ghost) (w w' : World) : Prop := w.heap.size ≤ w'.heap.size ∧ Agree (Xof D G) w w'
def AWD (M : Md → Prop) (P : Program) (ops : Array Oper) (D : List Nat) (done : List Nat) (Q : XE → St → Prop) (st : St) : Prop :=
  ∀ (m : Subtype M) (w0 : World) (S0 : Base) G a w, SR w0 S0 G st a w → awpH m.1 P ops (QC w0 S0 Q) (Nx D G w) (ops.size - done.length) (lst ops.size done) a w
def okTake (ops : Array Oper) (done : List Nat) (i : Nat) : Bool :=
  decide (done.length < ops.size) && Region.free .any ops (lst ops.size done) i && (Region.ready .any ops (lst ops.size done)).contains i
def stepP (P : Program) (ops : Array Oper) (D : List Nat) (o : Oper) (st : St) : Option (Prop × St) :=
  match guardPath ops st o.guard with
  | none => none
  | some p => match o.dst with
    | none => none
    | some d => if decide (d < st.n) && !onPath d p && convOk P o.op && ldOk D st p o.op then (match evalZD P st p o.op with
      | some (ob, x) => some (pathImp st [] p ob, st.put d p x)
      | none => none) else none
def runD (P : Program) (ops : Array Oper) (D : List Nat) : List Nat → List Nat → St → Option (Prop × List Nat × St)
  | [], done, st => some (True, done, st)
  | i :: r, done, st => if okTake ops done i then (match ops[i]? with
    | none => none
    | some o => match stepP P ops D o st with
      | some (ob, st1) => match runD P ops D r (i :: done) st1 with
        | some (ob2, done2, st2) => some (ob ∧ ob2, done2, st2)
        | none => none
      | none => none) else none
section
variable {P : Program} {w0 w : World} {S0 : Base} {G : Ghost} {st : St} {a : Act} {ops : Array Oper} {Q : XE → St → Prop} {D : List Nat}
theorem Nx.refl (D : List Nat) (G : Ghost) (w : World) : Nx D G w w := ⟨Nat.le_refl _, Agree.refl _ _⟩
theorem Nx.step {T : List Nat} {G' : Ghost} {w1 w2 : World} (hT : ∀ q ∈ T, q ∈ D) (h : Mv T G w G' w1) (h2 : Nx D G' w1 w2) : Nx D G w w2 := by
  obtain ⟨a1, a2, a3⟩ := h
  refine ⟨Nat.le_trans a1 h2.1, fun b hb hx => ?_⟩
  have hxT : ¬ Xof T G b := fun ⟨q, hq, e⟩ => hx ⟨q, hT q hq, e⟩
  rw [h2.2 b (by omega) ?_]
  · exact a2 b hb hxT
  · rintro ⟨q, hq, e⟩
    rcases a3 b q e with h3 | h3 | ⟨q', h4, h5⟩
    · omega
    · exact hx ⟨q, hq, h3⟩
    · exact hx ⟨q', hT q' h4, h5⟩
theorem Nx.of_mv {T : List Nat} {G' : Ghost} {w1 : World} (hT : ∀ q ∈ T, q ∈ D) (h : Mv T G w G' w1) : Nx D G w w1 :=
  ⟨h.1, fun b hb hx => h.2.1 b hb (fun ⟨q, hq, e⟩ => hx ⟨q, hT q hq, e⟩)⟩
theorem awd_begin {id : Nat} {l : List Oper} (D : List Nat) (hm : P.follows .mixedOrders = true) (h : AWD M P l.toArray D [] Q st) : AW M P (.region id l.toArray true) Q st := by
  intro m w0 S0 G a w hs
  refine cwp_region_held (S := Nx D G w.drew) hm ?_
  exact h m w0 S0 G a w.drew hs.drew
theorem shut_of (D : List Nat) (G : Ghost) : Shut D G (Xof D G) := fun _ h => h
theorem awd_take {i : Nat} {o : Oper} {done : List Nat} {ob : Prop} {st' : St} (hsel : plainOps ops = true) (ht : okTake ops done i = true) (hi : ops[i]? = some o) (h : stepP P ops D o st = some (ob, st')) (hob : ob)
    (hr : AWD M P ops D (i :: done) Q st') : AWD M P ops D done Q st := by
  intro m w0 S0 G a w hs
  simp only [okTake, Bool.and_eq_true, decide_eq_true_eq] at ht
  obtain ⟨⟨hlt, hfree⟩, hready⟩ := ht
  unfold stepP at h
  split at h
  · cases h
  · rename_i p hg
    have hw := guard_wanted hg hs
    split at h
    · cases h
    · rename_i d hd
      split at h
      · rename_i hck
        simp only [Bool.and_eq_true, decide_eq_true_eq, Bool.not_eq_true'] at hck
        obtain ⟨⟨⟨hdn, hp⟩, hcv⟩, hld⟩ := hck
        have hcv' : ∀ s d x, o.op = .convert s d x → ∃ u, P.underlying s = some u := by
          intro s d x e
          unfold convOk at hcv
          rw [e] at hcv
          exact Option.isSome_iff_exists.1 hcv
        split at h
        · rename_i ob' x hev
          injection h with h; injection h with e1 e2; subst e1 e2
          have hf : ops.size - done.length = (ops.size - (i :: done).length) + 1 := by simp; omega
          rw [hf]
          have hQ : ∀ (v : Value) (c : List PanicEntry) (a : Act) (w : World), QC w0 S0 Q (.panic c) (a.put o.dst v) w → QC w0 S0 Q (.panic c) a w := fun _ _ _ _ hq => hq.elim
          by_cases hh : Holds a p
          · obtain ⟨v, h1, h2⟩ := evalZD_sound hcv' hev (pathImp_out hs holds_nil hh hob) hs hh (shut_of D G) hld
            have hy : YieldsIf P ops (Nx D G w) o v a := .inl ⟨hw.2 hh, fun w' hw' => h1 w' (fun _ => hw'.2)⟩
            refine awpH_take hi hsel hfree hready (hQ v) hy (Nx.refl _ _ _) ?_
            rw [hd]
            exact hr m w0 S0 G _ w (hs.put hdn hp (fun _ => h2) (fun hn => absurd hh hn))
          · have hy : YieldsIf P ops (Nx D G w) o undef a := .inr ⟨by cases hb : Region.wanted o (yielded ops a.tmps) with
              | false => rfl
              | true => exact absurd (hw.1 hb) hh, rfl⟩
            refine awpH_take hi hsel hfree hready (hQ undef) hy (Nx.refl _ _ _) ?_
            rw [hd]
            exact hr m w0 S0 G _ w (hs.put hdn hp (fun h => absurd h hh) (fun _ => rfl))
        · cases h
      · cases h
theorem awd_run (hsel : plainOps ops = true) : ∀ (is : List Nat) {done done' : List Nat} {st st' : St} {ob : Prop}, runD P ops D is done st = some (ob, done', st') → ob → AWD M P ops D done' Q st' → AWD M P ops D done Q st
  | [], done, done', st, st', ob, h, _, hr => by
    simp only [runD] at h
    injection h with h; injection h with _ h; injection h with e1 e2; subst e1 e2
    exact hr
  | i :: r, done, done', st, st', ob, h, hob, hr => by
    simp only [runD] at h
    split at h
    · rename_i ht
      split at h
      · cases h
      · rename_i o hi
        split at h
        · rename_i ob1 st1 h1
          split at h
          · rename_i ob2 d2 st2 h2
            injection h with h; injection h with e1 h; injection h with e2 e3; subst e1 e2 e3
            exact awd_take hsel ht hi h1 hob.1 (awd_run hsel r h2 hob.2 hr)
          · cases h
        · cases h
    · cases h
def calm : Dir → Bool
  | .prune _ _ => true
  | .freeze _ => true
  | .freezeB _ _ => true
  | .nilP _ _ => true
  | .nilPB _ _ _ => true
  | .anyS _ => true
  | _ => false
theorem SR.calm_dir (h : SR w0 S0 G st a w) {d : Dir} {st' : St} (hd : d.go st = some st') (hc : calm d = true) : ∃ G', SR w0 S0 G' st' a w ∧ ∀ b q, G'.col b = some q → G.col b = some q := by
  cases d with
  | prune sl hp =>
    simp only [Dir.go, Dir.app] at hd
    injection hd with hd
    subst hd
    exact ⟨G, ⟨h.below, h.sub, h.colr, h.df, h.size, fun e he => h.sl e (pick_mem he), fun e he => h.hp e (pick_mem he)⟩, fun _ _ h => h⟩
  | anyS i =>
    simp only [Dir.go, Dir.app] at hd
    injection hd with hd
    subst hd
    exact ⟨G, h.anyS i, fun _ _ h => h⟩
  | freeze r => exact h.freeze_col hd
  | freezeB r t => exact h.freezeB_col hd
  | nilP i t =>
    simp only [Dir.go, Dir.app] at hd
    split at hd
    · rename_i hg
      split at hd
      · rename_i hi
        injection hd with hd
        subst hd
        have hv : a.tmps.getD i undef = .slice none 0 0 := h.get_ holds_nil hg
        have h3 := h.put (i := i) (p := []) (x := .v (.c (.p (.sl t) []))) (v := a.tmps.getD i undef) (by simpa using hi) rfl (fun _ => by rw [hv]; exact ⟨none, 0, rfl, Nat.le_refl _, Nat.zero_le _, .inl rfl⟩) (fun hn => absurd holds_nil hn)
        rw [put_same (by rw [h.size]; simpa using hi)] at h3
        exact ⟨_, h3, fun _ _ h => h⟩
      · cases hd
    · cases hd
  | nilPB r k t =>
    simp only [Dir.go, Dir.app] at hd
    split at hd
    · rename_i cs hcon
      split at hd
      · rename_i hk
        injection hd with hd
        subst hd
        obtain ⟨b, vs, e', hrho, hcol, hb, h2⟩ := h.con_ holds_nil hcon
        refine ⟨G, h.retell ⟨b, vs, e', hrho, hcol, hb, ?_⟩, fun _ _ h => h⟩
        obtain ⟨v, hv, hvr⟩ := h2.get k _ hk
        have hvr' : v = .slice none 0 0 := hvr
        subst hvr'
        have := h2.set k (.p (.sl t) []) (.slice none 0 0) (show ClRep w G (.p (.sl t) []) (.slice none 0 0) from ⟨none, 0, rfl, Nat.le_refl _, Nat.zero_le _, .inl rfl⟩)
        rw [show vs.toList.set k (.slice none 0 0) = vs.toList from by
          apply List.ext_getElem?
          intro j
          rw [List.getElem?_set]
          by_cases hj : k = j
          · subst hj
            rw [if_pos rfl, if_pos (List.getElem?_eq_some_iff.1 hv).1, hv]
          · rw [if_neg hj]] at this
        exact this
      · cases hd
    · cases hd
  | _ => cases hc
theorem SR.calm_conv (h : SR w0 S0 G st a w) : ∀ {ds : List Dir} {st' : St}, conv ds st = some st' → ds.all calm = true → ∃ G', SR w0 S0 G' st' a w ∧ ∀ b q, G'.col b = some q → G.col b = some q := by
  intro ds
  induction ds generalizing st G with
  | nil => intro st' hc _; simp only [conv] at hc; injection hc with hc; subst hc; exact ⟨G, h, fun _ _ h => h⟩
  | cons d r ih =>
    intro st' hc hall
    simp only [List.all_cons, Bool.and_eq_true] at hall
    simp only [conv] at hc
    split at hc
    · rename_i s hs
      obtain ⟨G', h', hcol⟩ := h.calm_dir hs hall.1
      obtain ⟨G2, h2, hcol2⟩ := ih h' hc hall.2
      exact ⟨G2, h2, fun b q hq => hcol b q (hcol2 b q hq)⟩
    · cases hc
theorem awd_conv {done : List Nat} {st' : St} (ds : List Dir) (hc : conv ds st = some st') (hcalm : ds.all calm = true) (h : AWD M P ops D done Q st') : AWD M P ops D done Q st := by
  intro m w0 S0 G a w hs
  obtain ⟨G', hs', hcol⟩ := hs.calm_conv hc hcalm
  refine awpH_weaken (fun w' hw' => ⟨hw'.1, fun b hb hx => hw'.2 b hb ?_⟩) _ _ _ _ (h _ _ _ _ _ _ hs')
  rintro ⟨q, hq, e⟩
  exact hx ⟨q, hq, hcol b q e⟩
theorem awd_done {done : List Nat} (hr : (Region.ready .any ops (lst ops.size done)).isEmpty = true) (h : Q .n st) : AWD M P ops D done Q st := by
  intro m w0 S0 G a w hs
  exact awpH_done (by simpa using hr) ⟨G, st, hs, h⟩ _
def onlyReady (ops : Array Oper) (done : List Nat) (i : Nat) : Bool :=
  decide (done.length < ops.size) && (match Region.ready .any ops (lst ops.size done) with
    | [j] => j == i
    | _ => false)
theorem onlyReady_spec {done : List Nat} {i : Nat} (h : onlyReady ops done i = true) : done.length < ops.size ∧ Region.ready .any ops (lst ops.size done) = [i] := by
  simp only [onlyReady, Bool.and_eq_true, decide_eq_true_eq] at h
  obtain ⟨h1, h2⟩ := h
  refine ⟨h1, ?_⟩
  split at h2
  · rename_i j hj
    rw [hj]
    simp at h2
    rw [h2]
  · cases h2
def ADOp (M : Md → Prop) (P : Program) (ops : Array Oper) (D done : List Nat) (i : Nat) (Q : XE → St → Prop) (st : St) : Prop :=
  ∀ (m : Subtype M) (w0 : World) (S0 : Base) G a w, SR w0 S0 G st a w →
    owp m.1 P ops (QC w0 S0 Q) i (fun a' w' => Nx D G w w' ∧ awpH m.1 P ops (QC w0 S0 Q) (Nx D G w) (ops.size - (i :: done).length) (lst ops.size (i :: done)) a' w') a w
theorem awd_one {i : Nat} {done : List Nat} (ho : onlyReady ops done i = true) (h : ADOp M P ops D done i Q st) : AWD M P ops D done Q st := by
  intro m w0 S0 G a w hs
  obtain ⟨hlt, hrd⟩ := onlyReady_spec ho
  have hf : ops.size - done.length = (ops.size - (i :: done).length) + 1 := by simp; omega
  rw [hf]
  refine awpH_all hrd (by simp) (fun j hj => ?_)
  simp only [List.mem_singleton] at hj
  subst hj
  exact h m w0 S0 G a w hs
theorem adop_call {i : Nat} {o : Oper} {done : List Nat} {c : Call} {d : Nat} {f : FuncId} {p : Path} (own : Bool) (tys : List AT) {l cl : List V1} (hi : ops[i]? = some o)
    (hg : guardPath ops st o.guard = some p) (hd : o.dst = some d)
    (hck : (decide (d < st.n) && !onPath d p && pathOk st [] p) = true) (ho : o.op = .call c) (hcal : calleeOf st p c = some (f, cl)) (hf : FnOk P f)
    (hargs : argsOf st p own tys c.args.toList = some l)
    (hT : pathB st [] p = true → ACalls P f (l ++ cl) fun res => (own = true → res.all scalar = true) ∧ AWD M P ops D (i :: done) Q (st.put d p (resAV res)))
    (hF : pathB st [] p = false → ∃ res, AWD M P ops D (i :: done) Q (st.put d p (resAV res))) : ADOp M P ops D done i Q st := by
  intro m w0 S0 G a w hs
  unfold owp wpOpIn
  simp only [hi]
  simp only [Bool.and_eq_true, decide_eq_true_eq, Bool.not_eq_true'] at hck
  obtain ⟨⟨hdn, hp⟩, hok⟩ := hck
  have hw := guard_wanted hg hs
  have hpb := path_iff hs holds_nil hok
  by_cases hh : Holds a p
  · rw [if_pos (hw.2 hh)]
    obtain ⟨vs, hen, hr⟩ := call_enter hs hh ho hcal hf hargs
    refine upon_enter' hen ?_
    refine (hT (hpb.1 hh) w _ _ (own_lt hs) hr).mono ?_
    rintro e w' ⟨us, res, S', rfl, h2, h3, h4, h5, h6⟩
    simp only [hd]
    obtain ⟨G', hmv, hs'⟩ := hs.back hdn hp hh h2 h3 h4 h5
    have hT' : ∀ q ∈ ([] : List Nat), q ∈ D := fun q hq => by simp at hq
    exact ⟨Nx.of_mv hT' hmv, awpH_weaken (fun w2 h7 => Nx.step hT' hmv h7) _ _ _ _ (h6 _ _ _ _ _ _ hs')⟩
  · rw [if_neg (fun e => hh (hw.1 e)), hd]
    have hpf : pathB st [] p = false := by
      cases hb : pathB st [] p with
      | false => rfl
      | true => exact absurd (hpb.2 hb) hh
    obtain ⟨res, hres⟩ := hF hpf
    exact ⟨fun f _ => m.1.fn f, Nx.refl _ _ _, hres _ _ _ _ _ _ (hs.put hdn hp (fun h => absurd h hh) (fun _ => rfl))⟩
end
end Dec
