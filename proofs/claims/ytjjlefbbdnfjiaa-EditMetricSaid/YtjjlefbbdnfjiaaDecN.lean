/-
  Regions whose order is drawn.
-/
import Derived.Test.YtjjlefbbdnfjiaaDecM
import Derived.OrdersHeld
set_option linter.unusedSimpArgs false
set_option linter.unusedVariables false
namespace Dec
open Go Go.RowKit

/-- which operations have come up (the last one first) -/
def lst (n : Nat) : List Nat → Array Bool
  | [] => Array.replicate n false
  | i :: r => (lst n r).setIfInBounds i true

def AWD (P : Program) (ops : Array Oper) (done : List Nat) (ph : Bool) (Q : XE → St → Prop) (st : St) : Prop :=
  ∀ w0 S0 G a w (ws : World), SR w0 S0 G st a w → Agree ws w → (ph = false → w.heap = ws.heap) → wpAnyH P .any ops (QC w0 S0 Q) (Agree ws) (ops.size - done.length) (lst ops.size done) a w

/-- may the operation i be taken now, ahead of all others? -/
def okTake (ops : Array Oper) (done : List Nat) (i : Nat) : Bool :=
  decide (done.length < ops.size) && Region.free .any ops (lst ops.size done) i && (Region.ready .any ops (lst ops.size done)).contains i

def stepP (P : Program) (ops : Array Oper) (ph : Bool) (o : Oper) (st : St) : Option (Prop × St) :=
  match guardPath ops st o.guard with
  | none => none
  | some p => match o.dst with
    | none => none
    | some d => if decide (d < st.n) && !onPath d p && convOk P o.op && !(isLoad o.op && ph) then (match evalP P st p o.op with
      | some (ob, x) => some (pathImp st [] p ob, st.put d p x)
      | none => none) else none

def runD (P : Program) (ops : Array Oper) (ph : Bool) : List Nat → List Nat → St → Option (Prop × List Nat × St)
  | [], done, st => some (True, done, st)
  | i :: r, done, st => if okTake ops done i then (match ops[i]? with
    | none => none
    | some o => match stepP P ops ph o st with
      | some (ob, st1) => match runD P ops ph r (i :: done) st1 with
        | some (ob2, done2, st2) => some (ob ∧ ob2, done2, st2)
        | none => none
      | none => none) else none

section
variable {P : Program} {w0 w : World} {S0 : Nat → Prop} {G : Ghost} {st : St} {a : Act} {ops : Array Oper} {Q : XE → St → Prop}

theorem awd_begin {id : Nat} {l : List Oper} (hm : P.follows .mixedOrders = true) (h : AWD P l.toArray [] false Q st) : AW P (.region id l.toArray true) Q st := by
  intro w0 S0 G a w hs
  refine wp_region_held (S := Agree w.drew) hm ?_
  exact h w0 S0 G a w.drew w.drew hs.drew (Agree.refl _) (fun _ => rfl)

theorem lst_size (n : Nat) : ∀ l : List Nat, (lst n l).size = n
  | [] => by simp [lst]
  | i :: r => by simp [lst, lst_size n r]

theorem awd_take {i : Nat} {o : Oper} {done : List Nat} {ph : Bool} {ob : Prop} {st' : St} (hsel : Region.noSelect ops = true) (ht : okTake ops done i = true) (hi : ops[i]? = some o) (h : stepP P ops ph o st = some (ob, st')) (hob : ob)
    (hr : AWD P ops (i :: done) ph Q st') : AWD P ops done ph Q st := by
  intro w0 S0 G a w ws hs hag hph
  simp only [okTake, Bool.and_eq_true, decide_eq_true_eq] at ht
  obtain ⟨⟨hlt, hfree⟩, hready⟩ := ht
  unfold stepP at h
  split at h
  · cases h
  · rename_i p hg
    have hw := guard_wanted hg hs
    split at h
    · cases h
    · rename_i d hd
      split at h
      · rename_i hck
        simp only [Bool.and_eq_true, decide_eq_true_eq, Bool.not_eq_true', Bool.and_eq_false_iff] at hck
        obtain ⟨⟨⟨hdn, hp⟩, hcv⟩, hld⟩ := hck
        have hcv' : ∀ s d x, o.op = .convert s d x → ∃ u, P.underlying s = some u := by
          intro s d x e
          unfold convOk at hcv
          rw [e] at hcv
          exact Option.isSome_iff_exists.1 hcv
        split at h
        · rename_i ob' x hev
          injection h with h; injection h with e1 e2; subst e1 e2
          have hf : ops.size - done.length = (ops.size - (i :: done).length) + 1 := by simp; omega
          rw [hf]
          have hQ : ∀ (v : Value) (c : List PanicEntry) (a : Act) (w : World), QC w0 S0 Q (.panic c) (a.put o.dst v) w → QC w0 S0 Q (.panic c) a w := fun _ _ _ _ hq => hq.elim
          by_cases hh : Holds a p
          · obtain ⟨v, h1, h2⟩ := evalP_sound hcv' hev (pathImp_out hs holds_nil hh hob) hs hh
            have hy : YieldsIf P ops (Agree ws) o v a := .inl ⟨hw.2 hh, fun w' hw' => h1 w' (fun hl => by
              have hphf : ph = false := by rcases hld with h3 | h3; · rw [hl] at h3; cases h3
                                           · exact h3
              have he := hph hphf
              intro b hb
              rw [he] at hb ⊢
              exact hw' b hb)⟩
            refine wpAnyH_take hi hsel hfree hready (hQ v) hy hag ?_
            rw [hd]
            exact hr w0 S0 G _ w ws (hs.put hdn hp (fun _ => h2) (fun hn => absurd hh hn)) hag hph
          · have hy : YieldsIf P ops (Agree ws) o undef a := .inr ⟨by cases hb : Region.wanted o (yielded ops a.tmps) with
              | false => rfl
              | true => exact absurd (hw.1 hb) hh, rfl⟩
            refine wpAnyH_take hi hsel hfree hready (hQ undef) hy hag ?_
            rw [hd]
            exact hr w0 S0 G _ w ws (hs.put hdn hp (fun h => absurd h hh) (fun _ => rfl)) hag hph
        · cases h
      · cases h

/-- several operations taken, one behind the other -/
theorem awd_run {ph : Bool} (hsel : Region.noSelect ops = true) : ∀ (is : List Nat) {done done' : List Nat} {st st' : St} {ob : Prop}, runD P ops ph is done st = some (ob, done', st') → ob → AWD P ops done' ph Q st' → AWD P ops done ph Q st
  | [], done, done', st, st', ob, h, _, hr => by
    simp only [runD] at h
    injection h with h; injection h with _ h; injection h with e1 e2; subst e1 e2
    exact hr
  | i :: r, done, done', st, st', ob, h, hob, hr => by
    simp only [runD] at h
    split at h
    · rename_i ht
      split at h
      · cases h
      · rename_i o hi
        split at h
        · rename_i ob1 st1 h1
          split at h
          · rename_i ob2 d2 st2 h2
            injection h with h; injection h with e1 h; injection h with e2 e3; subst e1 e2 e3
            exact awd_take hsel ht hi h1 hob.1 (awd_run hsel r h2 hob.2 hr)
          · cases h
        · cases h
    · cases h

theorem awd_conv {done : List Nat} {ph : Bool} {st' : St} (ds : List Dir) (hc : conv ds st = some st') (h : AWD P ops done ph Q st') : AWD P ops done ph Q st := by
  intro w0 S0 G a w ws hs hag hph
  obtain ⟨G', hs'⟩ := hs.conv_ hc
  exact h _ _ _ _ _ _ hs' hag hph

theorem awd_done {done : List Nat} {ph : Bool} (hr : (Region.ready .any ops (lst ops.size done)).isEmpty = true) (h : Q .n st) : AWD P ops done ph Q st := by
  intro w0 S0 G a w ws hs hag hph
  exact wpAnyH_done (by simpa using hr) ⟨G, st, hs, h⟩ _

def onlyReady (ops : Array Oper) (done : List Nat) (i : Nat) : Bool :=
  decide (done.length < ops.size) && (match Region.ready .any ops (lst ops.size done) with
    | [j] => j == i
    | _ => false)

theorem onlyReady_spec {done : List Nat} {i : Nat} (h : onlyReady ops done i = true) : done.length < ops.size ∧ Region.ready .any ops (lst ops.size done) = [i] := by
  simp only [onlyReady, Bool.and_eq_true, decide_eq_true_eq] at h
  obtain ⟨h1, h2⟩ := h
  refine ⟨h1, ?_⟩
  split at h2
  · rename_i j hj
    rw [hj]
    simp at h2
    rw [h2]
  · cases h2

theorem Agree.trans {a b c : World} (h1 : Agree a b) (h2 : Agree b c) : Agree a c := fun x hx => by
  have hb : x < b.heap.size := by
    have := h1 x hx
    rw [Array.getElem?_eq_getElem hx] at this
    exact (Array.getElem?_eq_some_iff.1 this).1
  rw [h2 x hb, h1 x hx]

/-- an operation that comes up alone (it may make a block) -/
def stepN (P : Program) (ops : Array Oper) (o : Oper) (st : St) : Option (Prop × St) :=
  match guardPath ops st o.guard with
  | none => none
  | some p => match o.dst with
    | none => none
    | some d => if decide (d < st.n) && !onPath d p && convOk P o.op then (match evalP P st p o.op with
      | some (ob, x) => some (pathImp st [] p ob, st.put d p x)
      | none => match evalN P st p o.op with
        | some (ob, c, b) => if c.clean d then some (pathImp st [] p ob, st.made d p c b) else none
        | none => none) else none

theorem awd_one {i : Nat} {o : Oper} {done : List Nat} {ph : Bool} {ob : Prop} {st' : St} (ho : onlyReady ops done i = true) (hi : ops[i]? = some o) (h : stepN P ops o st = some (ob, st')) (hob : ob)
    (hr : AWD P ops (i :: done) true Q st') : AWD P ops done ph Q st := by
  intro w0 S0 G a w ws hs hag hph
  obtain ⟨hlt, hrd⟩ := onlyReady_spec ho
  have hf : ops.size - done.length = (ops.size - (i :: done).length) + 1 := by simp; omega
  rw [hf]
  refine wpAnyH_all hrd (by simp) (fun j hj => ?_)
  simp only [List.mem_singleton] at hj
  subst hj
  unfold wpOp
  simp only [hi]
  unfold stepN at h
  split at h
  · cases h
  · rename_i p hg
    have hw := guard_wanted hg hs
    split at h
    · cases h
    · rename_i d hd
      split at h
      · rename_i hck
        simp only [Bool.and_eq_true, decide_eq_true_eq, Bool.not_eq_true'] at hck
        obtain ⟨⟨hdn, hp⟩, hcv⟩ := hck
        have hcv' : ∀ s d x, o.op = .convert s d x → ∃ u, P.underlying s = some u := by
          intro s d x e
          unfold convOk at hcv
          rw [e] at hcv
          exact Option.isSome_iff_exists.1 hcv
        split at h
        · rename_i ob' x hev
          injection h with h; injection h with e1 e2; subst e1 e2
          by_cases hh : Holds a p
          · rw [if_pos (hw.2 hh)]
            obtain ⟨v, h1, h2⟩ := evalP_sound hcv' hev (pathImp_out hs holds_nil hh hob) hs hh
            left
            unfold Oper.wp
            rw [h1 w (fun _ => Agree.refl w), Oper.upon_value, hd]
            exact ⟨hag, hr w0 S0 G _ w ws (hs.put hdn hp (fun _ => h2) (fun hn => absurd hh hn)) hag (fun e => by cases e)⟩
          · rw [if_neg (fun e => hh (hw.1 e)), hd]
            exact ⟨hag, hr w0 S0 G _ w ws (hs.put hdn hp (fun h => absurd h hh) (fun _ => rfl)) hag (fun e => by cases e)⟩
        · split at h
          · rename_i ob' c b hev
            split at h
            · rename_i hcl
              injection h with h; injection h with e1 e2; subst e1 e2
              by_cases hh : Holds a p
              · rw [if_pos (hw.2 hh)]
                obtain ⟨v, w', G', h1, h2, h3⟩ := evalN_sound hev (pathImp_out hs holds_nil hh hob) hs hh hdn hp hcl
                left
                unfold Oper.wp
                rw [h1, Oper.upon_value, hd]
                exact ⟨hag.trans h2, hr w0 S0 G' _ w' ws h3 (hag.trans h2) (fun e => by cases e)⟩
              · rw [if_neg (fun e => hh (hw.1 e)), hd]
                exact ⟨hag, hr w0 S0 G _ w ws (hs.made_off hdn hp hh) hag (fun e => by cases e)⟩
            · cases h
          · cases h
      · cases h

/-- a call that comes up alone -/
theorem awd_call {i : Nat} {o : Oper} {done : List Nat} {ph : Bool} {c : Call} {d : Nat} {f : FuncId} {p : Path} (own : Bool) (tys : List Ty) {l : List V1} (hor : onlyReady ops done i = true) (hi : ops[i]? = some o)
    (hg : guardPath ops st o.guard = some p) (hd : o.dst = some d)
    (hck : (decide (d < st.n) && !onPath d p && pathOk st [] p) = true) (ho : o.op = .call c) (hc : c.callee = .value (.func f)) (hf : ∀ (args : Array Value) (w : World), (callFunc f args).run P w = .ok (.enter f args) w)
    (hargs : argsOf st p own tys c.args.toList = some l)
    (hT : pathB st [] p = true → ACalls P f l fun res => (own = true → res.all scalar = true) ∧ AWD P ops (i :: done) true Q (st.put d p (resAV res)))
    (hF : pathB st [] p = false → ∃ res, AWD P ops (i :: done) true Q (st.put d p (resAV res))) : AWD P ops done ph Q st := by
  intro w0 S0 G a w ws hs hag hph
  obtain ⟨hlt, hrd⟩ := onlyReady_spec hor
  have hfu : ops.size - done.length = (ops.size - (i :: done).length) + 1 := by simp; omega
  rw [hfu]
  refine wpAnyH_all hrd (by simp) (fun j hj => ?_)
  simp only [List.mem_singleton] at hj
  subst hj
  unfold wpOp
  simp only [hi]
  simp only [Bool.and_eq_true, decide_eq_true_eq, Bool.not_eq_true'] at hck
  obtain ⟨⟨hdn, hp⟩, hok⟩ := hck
  have hw := guard_wanted hg hs
  have hpb := path_iff hs holds_nil hok
  by_cases hh : Holds a p
  · rw [if_pos (hw.2 hh)]
    left
    unfold Oper.wp
    rw [run_callFn (ty := o.type) hc hf o ho, Oper.upon_enter]
    have hr := argsOf_rep hs hh hargs
    have hS : ∀ b, (if own then G.all else G.S) b → b < w.heap.size := by
      intro b hb
      cases own with
      | false => exact (hs.sub b hb).1
      | true =>
        rcases hb with h1 | ⟨r, h1⟩
        · exact (hs.sub b h1).1
        · exact (hs.colr b r h1).2.1
    refine (hT (hpb.1 hh) w _ _ hS hr).mono ?_
    rintro e w' ⟨us, res, S', rfl, h2, h3, h4, h5, h6⟩
    simp only [hd]
    have hag' : Agree ws w' := hag.trans (fun b hb => h2.block b hb)
    refine ⟨hag', ?_⟩
    cases own with
    | false =>
      have hs' := hs.called h2 h3
      refine h6 _ _ _ _ _ ws (hs'.put hdn hp (fun _ => ret_rep (G := { G with S := fun b => G.S b ∨ S' b }) ?_) (fun hn => absurd hh hn)) hag' (fun e => by cases e)
      exact All2.imp (fun _ _ _ hx => PRep.keep (fun b hb => ⟨.inr hb, rfl⟩) hx) h4
    | true =>
      have hs' := hs.lent h2
      refine h6 _ _ _ _ _ ws (hs'.put hdn hp (fun _ => ret_rep ?_) (fun hn => absurd hh hn)) hag' (fun e => by cases e)
      have h5' := h5 rfl
      rw [List.all_eq_true] at h5'
      exact All2.imp (fun x hx _ hv => scalar_rep (h5' x hx) hv) h4
  · rw [if_neg (fun e => hh (hw.1 e)), hd]
    have hpf : pathB st [] p = false := by
      cases hb : pathB st [] p with
      | false => rfl
      | true => exact absurd (hpb.2 hb) hh
    obtain ⟨res, hres⟩ := hF hpf
    exact ⟨hag, hres _ _ _ _ _ ws (hs.put hdn hp (fun h => absurd h hh) (fun _ => rfl)) hag (fun e => by cases e)⟩
end
end Dec
