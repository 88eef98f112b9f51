/-
Calls; the forms of code; loops; the body of a function.
-/
import Derived.Test.YtljlpmfmfcljaaaDecK
set_option linter.unusedSimpArgs false
set_option linter.unusedVariables false
namespace Dec
open Go Go.RowKit
variable {M : Md → Prop}
section
variable {P : Program} {w0 w : World} {S0 : Base} {G : Ghost} {st : St} {a : Act} {ops : Array Oper} {Q : XE → St → Prop}
theorem ACalls.mono {f : FuncId} {args : List V1} {K K' : List V1 → Prop} (h : ACalls P f args K) (hk : ∀ r, K r → K' r) : ACalls P f args K' := by
  intro w S vs hS hr
  refine (h w S vs hS hr).mono ?_
  rintro e w' ⟨us, res, S', h1, h2, h3, h4, h5⟩
  exact ⟨us, res, S', h1, h2, h3, h4, hk _ h5⟩
theorem SR.called (h : SR w0 S0 G st a w) {w' : World} {S' : Nat → Prop} (hb : Bel w.heap.size w w') (hS : ∀ b, S' b → b < w'.heap.size ∧ (G.S b ∨ w.heap.size ≤ b)) :
    SR w0 S0 { G with S := fun b => G.S b ∨ S' b } st a w' := by
  refine h.move (fun _ => False) (fun b hb' => ⟨.inl hb', hb.block b (h.sub b hb').1⟩) (fun _ _ => rfl) (fun b r _ hc => ⟨hc, hb.block b (h.colr b r hc).2.1⟩) (h.below.trans (Fr.of_below (hb.mono h.below_size))) ?_ ?_ rfl (fun e he => ⟨he, fun _ _ hf => hf⟩) (fun e he => ⟨he, fun hf => hf, fun _ _ hf => hf⟩)
  · intro b hb'
    have hsz := hb.size
    rcases hb' with h1 | h1
    · have := h.sub b h1; exact ⟨by omega, this.2⟩
    · obtain ⟨h2, h3⟩ := hS b h1
      refine ⟨h2, ?_⟩
      rcases h3 with h3 | h3
      · exact (h.sub b h3).2
      · have := h.below_size; exact .inr (by omega)
  · intro b r hc
    have h1 := h.colr b r hc
    have hsz := hb.size
    refine ⟨h1.1, by omega, ?_⟩
    rintro (h2 | h2)
    · exact h1.2.2 h2
    · rcases (hS b h2).2 with h3 | h3
      · exact h1.2.2 h3
      · omega
theorem SR.lent (h : SR w0 S0 G st a w) {w' : World} (hb : Bel w.heap.size w w') : SR w0 S0 G st a w' := by
  refine h.move (fun _ => False) (fun b hb' => ⟨hb', hb.block b (h.sub b hb').1⟩) (fun _ _ => rfl) (fun b r _ hc => ⟨hc, hb.block b (h.colr b r hc).2.1⟩) (h.below.trans (Fr.of_below (hb.mono h.below_size))) ?_ ?_ rfl (fun e he => ⟨he, fun _ _ hf => hf⟩) (fun e he => ⟨he, fun hf => hf, fun _ _ hf => hf⟩)
  · intro b hb'
    have hsz := hb.size
    have := h.sub b hb'; exact ⟨by omega, this.2⟩
  · intro b r hc
    have h1 := h.colr b r hc
    have hsz := hb.size
    exact ⟨h1.1, by omega, h1.2.2⟩
theorem scalar_rep {w w' : World} {G : Ghost} {S : Nat → Prop} {x : V1} {v : Value} (hs : scalar x = true) (h : PRep w S x v) : PRep w' G.S x v := by
  obtain ⟨t, y, cs, rfl, he, rfl⟩ := h
  cases t with
  | int k => exact ⟨.int k, y, cs, rfl, he, rfl⟩
  | bool => exact ⟨.bool, y, cs, rfl, he, rfl⟩
  | sl t => simp [toV1, scalar] at hs
  | pr u v => simp [toV1, scalar] at hs
  | ar n t => simp [toV1, scalar] at hs
  | mp k v => simp [toV1, scalar] at hs
  | tr => simp [toV1, scalar] at hs
def calleeOf (st : St) (p : Path) (c : Call) : Option (FuncId × List V1) :=
  match c.callee with
  | .value (.func f) => some (f, [])
  | .value (.tmp i) => match st.get p i with
    | some (.v (.c (.fn f caps))) => some (f, caps.map fun d => .c (.ad d.1 d.2))
    | _ => none
  | _ => none
def FnOk (P : Program) (f : FuncId) : Prop := ∀ (args : Array Value) (w : World), (callFunc f args).run P w = .ok (.enter f args) w
theorem caps_rep {w : World} {S : Nat → Prop} : ∀ {caps : List Dat} {vs : List Value}, All2 (fun (d : Dat) u => AdRep w S d.1 d.2 u) caps vs → All2 (ARep w S) (caps.map fun d => V1.c (.ad d.1 d.2)) vs
  | [], [], _ => trivial
  | _ :: _, _ :: _, h => ⟨ARep.ad h.1, caps_rep h.2⟩
  | [], _ :: _, h => h.elim
  | _ :: _, [], h => h.elim
theorem call_enter {own : Bool} {tys : List AT} {l cl : List V1} {f : FuncId} {c : Call} {p : Path} {o : Oper} (hs : SR w0 S0 G st a w) (hh : Holds a p) (ho : o.op = .call c) (hcal : calleeOf st p c = some (f, cl)) (hf : FnOk P f) (hargs : argsOf st p own tys c.args.toList = some l) :
    ∃ vs : List Value, (execOp a.eval o).run P w = .ok (.enter f vs.toArray) w ∧ All2 (ARep w (if own then G.all else G.S)) (l ++ cl) vs := by
  have hr := argsOf_rep hs hh hargs
  have harr : ∀ cvs : List Value, (c.args.map a.eval) ++ cvs.toArray = (c.args.toList.map a.eval ++ cvs).toArray := fun cvs => by apply Array.ext'; simp
  unfold calleeOf at hcal
  split at hcal
  · rename_i g hc
    injection hcal with hcal; injection hcal with e1 e2; subst e1 e2
    refine ⟨c.args.toList.map a.eval, ?_, by simpa using hr⟩
    unfold execOp
    simp only [ho, resolve, hc, Act.eval, Deferred.ofValue, invoke, Sem.run_bind, Sem.run_pure, Result.andThen_ok]
    rw [hf]
    congr 2
    apply Array.ext'
    simp
  · rename_i i hc
    split at hcal
    · rename_i g caps hget
      injection hcal with hcal; injection hcal with e1 e2; subst e1 e2
      obtain ⟨cvs, hv, hcv⟩ := hs.get_ hh hget
      refine ⟨c.args.toList.map a.eval ++ cvs, ?_, hr.append (All2.imp (fun _ _ _ hx => ARep.keep (w := w) (fun b hb => ⟨by cases own; exact hb; exact .inl hb, rfl⟩) hx) (caps_rep hcv))⟩
      unfold execOp
      simp only [ho, resolve, hc, Act.eval, hv, Deferred.ofValue, invoke, Sem.run_bind, Sem.run_pure, Result.andThen_ok]
      rw [hf]
      congr 2
      apply Array.ext'
      simp
    · cases hcal
  · cases hcal
theorem own_lt {own : Bool} (hs : SR w0 S0 G st a w) : ∀ b, (if own then G.all else G.S) b → b < w.heap.size := by
  intro b hb
  cases own with
  | false => exact (hs.sub b hb).1
  | true =>
    rcases hb with h1 | ⟨r, h1⟩
    · exact (hs.sub b h1).1
    · exact (hs.colr b r h1).2.1
theorem SR.back {own : Bool} {d : Nat} {p : Path} {res : List V1} {us : List Value} {S' : Nat → Prop} {w' : World} (hs : SR w0 S0 G st a w) (hdn : d < st.n) (hp : onPath d p = false) (hh : Holds a p) (h2 : Bel w.heap.size w w')
    (h3 : ∀ b, S' b → b < w'.heap.size ∧ ((if own then G.all else G.S) b ∨ w.heap.size ≤ b)) (h4 : All2 (PRep w' S') res us) (h5 : own = true → res.all scalar = true) :
    ∃ G', Mv [] G w G' w' ∧ SR w0 S0 G' (st.put d p (resAV res)) (a.put (some d) (retVal us)) w' := by
  have hmv : ∀ S'', Mv [] G w { G with S := S'' } w' := fun S'' => ⟨h2.size, fun b hb _ => h2.block b hb, fun _ _ h => .inr (.inl h)⟩
  cases own with
  | false =>
    have hs' := hs.called h2 h3
    refine ⟨_, hmv _, hs'.put hdn hp (fun _ => ret_rep (G := { G with S := fun b => G.S b ∨ S' b }) ?_) (fun hn => absurd hh hn)⟩
    exact All2.imp (fun _ _ _ hx => PRep.keep (fun b hb => ⟨.inr hb, rfl⟩) hx) h4
  | true =>
    have hs' := hs.lent h2
    refine ⟨G, hmv G.S, hs'.put hdn hp (fun _ => ret_rep ?_) (fun hn => absurd hh hn)⟩
    have h5' := h5 rfl
    rw [List.all_eq_true] at h5'
    exact All2.imp (fun x hx _ hv => scalar_rep (h5' x hx) hv) h4
theorem awl_call {o : Oper} {rest : List Oper} {c : Call} {d : Nat} {f : FuncId} {p : Path} (own : Bool) (tys : List AT) {l cl : List V1} (hg : guardPath ops st o.guard = some p) (hd : o.dst = some d)
    (hck : (decide (d < st.n) && !onPath d p && pathOk st [] p) = true) (ho : o.op = .call c) (hcal : calleeOf st p c = some (f, cl)) (hf : FnOk P f)
    (hargs : argsOf st p own tys c.args.toList = some l)
    (hT : pathB st [] p = true → ACalls P f (l ++ cl) fun res => (own = true → res.all scalar = true) ∧ AWL M P ops rest Q (st.put d p (resAV res)))
    (hF : pathB st [] p = false → ∃ res, AWL M P ops rest Q (st.put d p (resAV res))) : AWL M P ops (o :: rest) Q st := by
  intro m w0 S0 G a w hs
  simp only [Bool.and_eq_true, decide_eq_true_eq, Bool.not_eq_true'] at hck
  obtain ⟨⟨hdn, hp⟩, hok⟩ := hck
  have hw := guard_wanted hg hs
  have hpb := path_iff hs holds_nil hok
  refine lwp_step fun K hK => ?_
  by_cases hh : Holds a p
  · rw [if_pos (hw.2 hh)]
    obtain ⟨vs, hen, hr⟩ := call_enter hs hh ho hcal hf hargs
    refine upon_enter' hen ?_
    refine (hT (hpb.1 hh) w _ _ (own_lt hs) hr).mono ?_
    rintro e w' ⟨us, res, S', rfl, h2, h3, h4, h5, h6⟩
    simp only [hd]
    obtain ⟨G', _, hs'⟩ := hs.back hdn hp hh h2 h3 h4 h5
    exact hK _ _ (h6 _ _ _ _ _ _ hs')
  · rw [if_neg (fun e => hh (hw.1 e)), hd]
    have hpf : pathB st [] p = false := by
      cases hb : pathB st [] p with
      | false => rfl
      | true => exact absurd (hpb.2 hb) hh
    obtain ⟨res, hres⟩ := hF hpf
    exact hK _ _ (hres _ _ _ _ _ _ (hs.put hdn hp (fun h => absurd h hh) (fun _ => rfl)))
/-! ### the forms of code -/
theorem QC.imp {Q' : XE → St → Prop} (h : ∀ e s, Q e s → Q' e s) : ∀ (e : Exit) (a : Act) (w : World), QC w0 S0 Q e a w → QC w0 S0 Q' e a w
  | .normal, _, _, ⟨G, st, hs, hq⟩ => ⟨G, st, hs, h _ _ hq⟩
  | .exit _, _, _, ⟨G, st, hs, hq⟩ => ⟨G, st, hs, h _ _ hq⟩
  | .ret, _, _, ⟨G, st, hs, hq⟩ => ⟨G, st, hs, h _ _ hq⟩
  | .goto _, _, _, h => h.elim
  | .panic _, _, _, h => h.elim
  | .outgrown, _, _, h => h.elim
theorem AW.mono {c : Code} {Q' : XE → St → Prop} (h : AW M P c Q st) (hq : ∀ e s, Q e s → Q' e s) : AW M P c Q' st :=
  fun m w0 S0 G a w hs => Go.wpIn_mono (h m w0 S0 G a w hs) (QC.imp hq)
def thenQ (K : St → Prop) (Q : XE → St → Prop) : XE → St → Prop
  | .n, s => K s
  | e, s => Q e s
theorem aw_seq {x y : Code} (h : AW M P x (thenQ (AW M P y Q) Q) st) : AW M P (.seq x y) Q st := by
  intro m w0 S0 G a w hs
  refine wpIn_seq (Go.wpIn_mono (h m w0 S0 G a w hs) ?_)
  intro e a' w' hq
  cases e with
  | normal => obtain ⟨G', st', hs', hq'⟩ := hq; exact hq' _ _ _ _ _ _ hs'
  | exit id => obtain ⟨G', st', hs', hq'⟩ := hq; exact ⟨G', st', hs', hq'⟩
  | ret => obtain ⟨G', st', hs', hq'⟩ := hq; exact ⟨G', st', hs', hq'⟩
  | goto l => exact hq.elim
  | panic c => exact hq.elim
  | outgrown => exact hq.elim
theorem aw_region {id : Nat} {l : List Oper} (h : AWL M P l.toArray l Q st) : AW M P (.region id l.toArray false) Q st :=
  fun m w0 S0 G a w hs => wpIn_region_lit (h m w0 S0 G a w hs)
theorem aw_skip (h : Q .n st) : AW M P .skip Q st := fun _ _ _ G _ _ hs => wpIn_skip ⟨G, st, hs, h⟩
theorem aw_exit {id : Nat} (h : Q (.x id) st) : AW M P (.exit id) Q st := fun _ _ _ G _ _ hs => wpIn_exit ⟨G, st, hs, h⟩
theorem aw_ret (h : Q .r st) : AW M P .ret Q st := fun _ _ _ G _ _ hs => wpIn_ret ⟨G, st, hs, h⟩
theorem aw_cond {c : Operand} {x y : Code} {b : Bool} (hc : st.val [] c = some (.v (.c (.p .bool b)))) (h1 : b = true → AW M P x Q st) (h2 : b = false → AW M P y Q st) : AW M P (.cond c x y) Q st := by
  intro m w0 S0 G a w hs
  have hv := rep_pB (hs.val_ holds_nil hc)
  refine wpIn_cond_split (t := b) hv (fun hb => h1 hb _ _ _ _ _ _ hs) (fun hb => h2 hb _ _ _ _ _ _ hs)
def blockQ (id : Nat) (Q : XE → St → Prop) : XE → St → Prop
  | .x id', s => if id' == id then Q .n s else Q (.x id') s
  | e, s => Q e s
theorem aw_block {id : Nat} {c : Code} (h : AW M P c (blockQ id Q) st) : AW M P (.block id c) Q st := by
  intro m w0 S0 G a w hs
  refine wpIn_block (Go.wpIn_mono (h m w0 S0 G a w hs) ?_)
  intro e a' w' hq
  cases e with
  | normal => obtain ⟨G', st', hs', hq'⟩ := hq; exact ⟨G', st', hs', hq'⟩
  | exit id' =>
    obtain ⟨G', st', hs', hq'⟩ := hq
    simp only [blockQ] at hq'
    simp only [Exit.inBlock]
    by_cases hid : id' = id
    · rw [if_pos hid]; rw [if_pos (by simpa using hid)] at hq'; exact ⟨G', st', hs', hq'⟩
    · rw [if_neg hid]; rw [if_neg (by simpa using hid)] at hq'; exact ⟨G', st', hs', hq'⟩
  | ret => obtain ⟨G', st', hs', hq'⟩ := hq; exact ⟨G', st', hs', hq'⟩
  | goto l => exact hq.elim
  | panic c => exact hq.elim
  | outgrown => exact hq.elim
/-! ### a state is told anew -/
inductive Dir where
  | prune (sl hp : List Nat)
  | freeze (r : Nat)
  | freezeB (r : Nat) (t : Ty)
  | nilOwnB (r k q : Nat) (e : TypeId) (t : Ty)
  | nilPB (r k : Nat) (t : Ty)
  | nilOwn (i r : Nat) (e : TypeId) (t : Ty)
  | nilP (i : Nat) (t : Ty)
  | ren (r r' : Nat)
  | cut (i r : Nat)
  | cutB (r k : Nat)
  | anyS (i : Nat)
def pick {α : Type} (l : List (Nat × α)) : List Nat → List (Nat × α)
  | [] => []
  | i :: r => match lk l i with
    | some x => (i, x) :: pick l r
    | none => pick l r
theorem pick_mem {α : Type} {l : List (Nat × α)} : ∀ {is : List Nat} {e : Nat × α}, e ∈ pick l is → e ∈ l
  | [], _, h => by simp [pick] at h
  | i :: r, e, h => by
    simp only [pick] at h
    split at h
    · rename_i x hx
      rcases List.mem_cons.1 h with rfl | h
      · exact lk_mem hx
      · exact pick_mem h
    · exact pick_mem h
def Cl.sub (r : Nat) (y : Cl) (x : Cl) : Cl :=
  match x with
  | .own q => if q == r then y else x
  | x => x
def Cl.subD {t : Ty} (r : Nat) (l : t.T) (x : Cl) : Cl :=
  match x with
  | .own q => if q == r then .p t l else x
  | x => if x.has r then .any else x
def Cl.subB {t : Ty} (r : Nat) (l : t.T) (x : Cl) : Cl :=
  match x with
  | .ptr q 0 => if q == r then .ad t l else x
  | x => if x.has r then .any else x
def Cl.sub2 {t : Ty} (r : Nat) (l : List t.T) (x : Cl) : Cl :=
  match x with
  | .own q => if q == r then .p (.sl t) l else x
  | .vw q lo n sz => if q == r then (if sz == t.size then .p (.sl t) ((l.drop lo).take n) else .any) else x
  | x => if x.has r then .any else x
def V1.map (f : Cl → Cl) : V1 → V1
  | .c x => .c (f x)
  | .agg cs => .agg (cs.map f)
def AV.map (f : Cl → Cl) : AV → AV
  | .v x => .v (x.map f)
  | .tup xs => .tup (xs.map (·.map f))
def mapFs (f : Cl → Cl) : List (Nat × Nat × List Cl) → Option (List (Nat × Nat × List Cl))
  | [] => some []
  | (q, i, cs) :: r => match f (.ep q q 0), mapFs f r with
    | .ep _ q' 0, some r' => some ((q', i, cs.map f) :: r')
    | _, _ => none
def Con.map (f : Cl → Cl) : Con → Con
  | .box cs => .box (cs.map f)
  | .deep e E t l fs => match mapFs f fs with
    | some fs' => .deep e E t l fs'
    | none => .lost
  | .lp x0 k sl => .lp x0 k (sl.map fun e => (e.1, e.2.map f))
  | .mit x n seen => .mit (f x) n seen
  | c => c
def Cap.ren (r r' : Nat) : Cap → Cap
  | .pt q o => .pt (if q == r then r' else q) o
  | c => c
def Cl.ren (r r' : Nat) : Cl → Cl
  | .own q => .own (if q == r then r' else q)
  | .vw q lo n sz => .vw (if q == r then r' else q) lo n sz
  | .ptr q o => .ptr (if q == r then r' else q) o
  | .el q i sz => .el (if q == r then r' else q) i sz
  | .elf q i sz off => .elf (if q == r then r' else q) i sz off
  | .elv q i sz off n => .elv (if q == r then r' else q) i sz off n
  | .ep q s off => .ep (if q == r then r' else q) (if s == r then r' else s) off
  | .yv q => .yv (if q == r then r' else q)
  | .cl f caps => .cl f (caps.map (Cap.ren r r'))
  | x => x
def St.frozen (st : St) (r : Nat) (f : Cl → Cl) : St :=
  { st with sl := st.sl.map (fun e => (e.1, e.2.1, e.2.2.map f)), hp := (st.hp.filter (fun e => !(e.1 == r))).map (fun e => (e.1, e.2.1, e.2.2.map f)) }
def Dir.app (st : St) : Dir → Option St
  | .prune sl hp => some { st with sl := pick st.sl sl, hp := pick st.hp hp }
  | .freeze r => match st.con [] r with
    | some (.arr _ t l) => some (st.frozen r (Cl.sub2 (t := t) r l))
    | some (.dict k v l) => some (st.frozen r (Cl.subD (t := .mp k v) r l))
    | _ => none
  | .freezeB r t => match st.con [] r with
    | some (.box cs) => match coll t cs with
      | some (x, []) => some (st.frozen r (Cl.subB (t := t) r x))
      | _ => none
    | some (.vec n u l) => match n with
      | m + 1 => some (st.frozen r (Cl.subB (t := .ar m u) r l))
      | _ => none
    | _ => none
  | .nilPB r k t => match st.con [] r with
    | some (.box cs) => match cs[k]? with
      | some .nils => some (st.upd r (.box (cs.set k (.p (.sl t) []))))
      | _ => none
    | _ => none
  | .nilOwnB r k q e t => match st.con [] r with
    | some (.box cs) => match cs[k]? with
      | some .nils => if q == r || cs.any (·.has q) then none else (match (st.purge q).con [] r with
        | some (.box _) => some (((st.purge q).upd r (.box (cs.set k (.own q)))).own q [] (.arr e t []))
        | _ => none)
      | _ => none
    | _ => none
  | .nilOwn i r e t => match st.get [] i with
    | some (.v (.c .nils)) => if decide (i < st.n) then some (((st.purge r).own r [] (.arr e t [])).put i [] (.v (.c (.own r)))) else none
    | _ => none
  | .nilP i t => match st.get [] i with
    | some (.v (.c .nils)) => if decide (i < st.n) then some (st.put i [] (.v (.c (.p (.sl t) [])))) else none
    | _ => none
  | .ren r r' => some (let s := st.purge r'; { s with sl := s.sl.map (fun e => (e.1, e.2.1, e.2.2.map (Cl.ren r r'))), hp := s.hp.map (fun e => (if e.1 == r then r' else e.1, e.2.1, e.2.2.map (Cl.ren r r'))) })
  | .cut i r => none
  | .cutB r k => none
  | .anyS i => some { st with sl := st.sl.map fun e => if e.1 == i then (e.1, e.2.1, .v (.c .any)) else e }
theorem put_same {i : Nat} (h : i < a.tmps.size) : a.put (some i) (a.tmps.getD i undef) = a := by
  cases a with
  | mk tmps defers =>
    simp only [Act.put]
    congr 1
    apply Array.ext'
    rw [Array.toList_setIfInBounds]
    have e : tmps.getD i undef = tmps.toList[i]'(by simpa using h) := by simp [Array.getD, h]
    rw [e, List.set_getElem_self]
theorem All2.map_left {α β γ : Type} {R : α → β → Prop} {R' : γ → β → Prop} {f : α → γ} (hf : ∀ x v, R x v → R' (f x) v) : ∀ {l : List α} {m : List β}, All2 R l m → All2 R' (l.map f) m
  | [], [], _ => trivial
  | _ :: _, _ :: _, h => ⟨hf _ _ h.1, All2.map_left hf h.2⟩
  | [], _ :: _, h => h.elim
  | _ :: _, [], h => h.elim
theorem SR.sub_map (h : SR w0 S0 G st a w) {st' : St} {G' : Ghost} (f : Cl → Cl) (hS : ∀ b, G.S b → G'.S b) (hf : ∀ x v, ClRep w G x v → ClRep w G' (f x) v)
    (sub : ∀ b, G'.S b → b < w.heap.size ∧ (S0.S b ∨ w0.heap.size ≤ b ∨ S0.F b)) (colr : ∀ b r, G'.col b = some r → (S0.F b ∨ w0.heap.size ≤ b) ∧ b < w.heap.size ∧ ¬ G'.S b) (hn : st'.n = st.n)
    (hsl : ∀ e ∈ st'.sl, ∃ x, (e.1, e.2.1, x) ∈ st.sl ∧ e.2.2 = x.map f) (hhp : ∀ e ∈ st'.hp, Holds a e.2.1 → ConRep w G' e.1 e.2.2) : SR w0 S0 G' st' a w where
  below := h.below
  sub := sub
  colr := colr
  df := h.df.keep (fun b hb => ⟨hS b hb, rfl⟩) rfl
  size := h.size.trans hn.symm
  sl := fun e he => by
    obtain ⟨x, hx, e2⟩ := hsl e he
    obtain ⟨h1, h2, h3⟩ := h.sl _ hx
    refine ⟨hn ▸ h1, fun hh => ?_, h3⟩
    rw [e2]
    have hx2 := h2 hh
    have v1 : ∀ (y : V1) (v : Value), V1Rep w G y v → V1Rep w G' (V1.map f y) v := by
      intro y v hy
      cases y with
      | c y => exact hf _ _ hy
      | agg cs =>
        obtain ⟨vs, e3, h4⟩ := hy
        exact ⟨vs, e3, h4.map_left hf⟩
    cases x with
    | v y => exact v1 _ _ hx2
    | tup ys =>
      obtain ⟨vs, e3, h4⟩ := hx2
      exact ⟨vs, e3, h4.map_left v1⟩
  hp := hhp
theorem box_map {r r' : Nat} {w : World} {G G' : Ghost} {f : Cl → Cl} {cs : List Cl} (h : ConRep w G r (.box cs)) (hf : ∀ x v, ClRep w G x v → ClRep w G' (f x) v) (hr : G'.rho r' = G.rho r) (hc : ∀ b, G.col b = some r → G'.col b = some r') :
    ConRep w G' r' (.box (cs.map f)) := by
  obtain ⟨b, vs, e, h1, h2, h3, h4⟩ := h
  exact ⟨b, vs, e, by rw [hr]; exact h1, hc b h2, h3, h4.map_left hf⟩
theorem arr_map {r r' : Nat} {w : World} {G G' : Ghost} {e : TypeId} {t : Ty} {l : List t.T} (h : ConRep w G r (.arr e t l)) (hS : ∀ b, G.S b → G'.S b) (hr : G'.rho r' = G.rho r) (hc : ∀ b, G.col b = some r → G'.col b = some r') :
    ConRep w G' r' (.arr e t l) := by
  obtain ⟨xs, h1, h2, h3, h4⟩ := h
  exact ⟨xs, EncL.imp (fun _ _ hh => Enc.keep (fun b hb => ⟨hS b hb, rfl⟩) hh) h1, by rw [hr]; exact h2, h3, by rw [hr]; exact fun g hg => hc g (h4 g hg)⟩
def Ghost.frz (G : Ghost) (B : Option Nat) : Ghost := { S := fun b => G.S b ∨ B = some b, col := fun b => if B = some b then none else G.col b, rho := G.rho }
theorem Ghost.frz_S {G : Ghost} {B : Option Nat} (b : Nat) (h : G.S b) : (G.frz B).S b := .inl h
theorem dict_map {r r' : Nat} {w : World} {G G' : Ghost} {k v : Ty} {l : List (k.T × v.T)} (h : ConRep w G r (.dict k v l)) (hS : ∀ b, G.S b → G'.S b) (hr : G'.rho r' = G.rho r) (hc : ∀ b, G.col b = some r → G'.col b = some r') :
    ConRep w G' r' (.dict k v l) := by
  obtain ⟨g, es, ck, h1, h2, h3, h4, h5⟩ := h
  exact ⟨g, es, ck, by rw [hr]; exact h1, hc g h2, h3, All2.imp (fun _ _ _ ⟨⟨c1, a1, a2⟩, c2, b1, b2⟩ => ⟨⟨c1, Enc.keep (fun b hb => ⟨hS b hb, rfl⟩) a1, a2⟩, c2, Enc.keep (fun b hb => ⟨hS b hb, rfl⟩) b1, b2⟩) h4, h5⟩
theorem vec_map {r r' : Nat} {w : World} {G G' : Ghost} {n : Nat} {t : Ty} {l : List t.T} (h : ConRep w G r (.vec n t l)) (hS : ∀ b, G.S b → G'.S b) (hr : G'.rho r' = G.rho r) (hc : ∀ b, G.col b = some r → G'.col b = some r') :
    ConRep w G' r' (.vec n t l) := by
  obtain ⟨b, vs, e, h1, h2, h3, h4, h5⟩ := h
  exact ⟨b, vs, e, by rw [hr]; exact h1, hc b h2, h3, EncL.imp (fun _ _ hh => Enc.keep (fun b hb => ⟨hS b hb, rfl⟩) hh) h4, h5⟩
theorem av_map {w : World} {G G' : Ghost} {f : Cl → Cl} (hf : ∀ x v, ClRep w G x v → ClRep w G' (f x) v) {x : AV} {v : Value} (h : AVRep w G x v) : AVRep w G' (x.map f) v := by
  have v1 : ∀ (y : V1) (v : Value), V1Rep w G y v → V1Rep w G' (V1.map f y) v := by
    intro y v hy
    cases y with
    | c y => exact hf _ _ hy
    | agg cs =>
      obtain ⟨vs, e3, h4⟩ := hy
      exact ⟨vs, e3, h4.map_left hf⟩
  cases x with
  | v y => exact v1 _ _ h
  | tup ys =>
    obtain ⟨vs, e3, h4⟩ := h
    exact ⟨vs, e3, h4.map_left v1⟩
theorem mapFs_rep {w : World} {G G' : Ghost} {f : Cl → Cl} (hf : ∀ x v, ClRep w G x v → ClRep w G' (f x) v) : ∀ {fs fs' : List (Nat × Nat × List Cl)}, mapFs f fs = some fs' →
    (fs'.map fun x => x.2.1) = (fs.map fun x => x.2.1) ∧ ∀ x ∈ fs', ∃ x0 ∈ fs, x.2.1 = x0.2.1 ∧ x.2.2 = x0.2.2.map f ∧ ∀ g o, G.rho x0.1 = .pointer (some ⟨g, o, none⟩) → G'.rho x.1 = .pointer (some ⟨g, o, none⟩)
  | [], fs', h => by simp only [mapFs] at h; injection h with h; subst h; exact ⟨rfl, fun x hx => by simp at hx⟩
  | (q, i, cs) :: r, fs', h => by
    simp only [mapFs] at h
    split at h
    · rename_i r2 q' r' he hr
      injection h with h; subst h
      obtain ⟨k1, k2⟩ := mapFs_rep hf hr
      refine ⟨by simp [k1], fun x hx => ?_⟩
      rcases List.mem_cons.1 hx with rfl | hx
      · refine ⟨(q, i, cs), by simp, rfl, rfl, fun g o hg => ?_⟩
        have h1 : ClRep w G (.ep q q 0) (.pointer (some ⟨g, o, none⟩)) := ⟨g, o, hg, rfl⟩
        have h2 := hf _ _ h1
        rw [he] at h2
        obtain ⟨g2, o2, h3, h4⟩ := h2
        injection h4 with h4; injection h4 with h4; injection h4 with e1 e2 _
        rw [h3, e1, e2]; rfl
      · obtain ⟨x0, hx0, h3⟩ := k2 x hx
        exact ⟨x0, List.mem_cons_of_mem _ hx0, h3⟩
    · cases h
theorem con_map {r r' : Nat} {w : World} {G G' : Ghost} {f : Cl → Cl} {c : Con} (h : ConRep w G r c) (hS : ∀ b, G.S b → G'.S b) (hf : ∀ x v, ClRep w G x v → ClRep w G' (f x) v) (hr : G'.rho r' = G.rho r) (hc : ∀ b, G.col b = some r → G'.col b = some r') :
    ConRep w G' r' (c.map f) := by
  cases c with
  | box cs => exact box_map h hf hr hc
  | arr e t l => exact arr_map h hS hr hc
  | vec n t l => exact vec_map h hS hr hc
  | dict k v l => exact dict_map h hS hr hc
  | mit x n seen =>
    obtain ⟨b, g, h1, h2, h3, h4⟩ := h
    exact ⟨b, g, by rw [hr]; exact h1, hc b h2, h3, hf _ _ h4⟩
  | lost => trivial
  | lp x0 k sl =>
    obtain ⟨l, h1, h2, h3, h4⟩ := h
    refine ⟨l, by rw [hr]; exact h1, hc l h2, h3, fun e he => ?_⟩
    obtain ⟨e0, he0, rfl⟩ := List.mem_map.1 he
    exact av_map hf (h4 e0 he0)
  | deep e E t l fs =>
    simp only [Con.map]
    split
    · rename_i fs' he
      obtain ⟨xss, Bs, h1, h2, h3, h4, h5, h6, h7⟩ := h
      obtain ⟨k1, k2⟩ := mapFs_rep hf he
      refine ⟨xss, Bs, by rw [hr]; exact h1, h2, by rw [hr]; exact fun g hg => hc g (h3 g hg), by rw [k1]; exact h4.keep (fun b hb => ⟨hS b hb, rfl⟩) (fun _ _ => rfl), by rw [k1]; exact h5, fun b hb => ⟨hc b (h6 b hb).1, by rw [hr]; exact (h6 b hb).2.1, (h6 b hb).2.2⟩, fun x hx => ?_⟩
      obtain ⟨x0, hx0, e1, e2, e3⟩ := k2 x hx
      obtain ⟨g, cs, j1, j2, j3, j4⟩ := h7 x0 hx0
      refine ⟨g, cs, by rw [hr]; exact j1, ?_, by rw [e1]; exact j3, by rw [e2]; exact All2.map_left hf j4⟩
      rw [e1]
      exact e3 _ _ j2
    · trivial
theorem SR.frozen (h : SR w0 S0 G st a w) {r : Nat} {B : Option Nat} (hB : ∀ b, B = some b → G.col b = some r) {f : Cl → Cl} (hf : ∀ x v, ClRep w G x v → ClRep w (G.frz B) (f x) v) : SR w0 S0 (G.frz B) (st.frozen r f) a w := by
  have hcol : ∀ b q, q ≠ r → G.col b = some q → (G.frz B).col b = some q := by
    intro b q hq hb
    show (if B = some b then none else G.col b) = some q
    rw [if_neg]
    · exact hb
    · intro e
      have := hB b e
      rw [hb] at this
      injection this with this
      exact hq this
  refine h.sub_map f Ghost.frz_S hf ?_ ?_ rfl (fun x hx => ?_) (fun x hx hh => ?_)
  · rintro b (hb | hb)
    · exact h.sub b hb
    · have := h.colr b r (hB b hb)
      exact ⟨this.2.1, .inr this.1.symm⟩
  · intro b q hq
    have hq' : (if B = some b then none else G.col b) = some q := hq
    split at hq'
    · cases hq'
    · rename_i hne
      have := h.colr b q hq'
      exact ⟨this.1, this.2.1, fun hh => hh.elim this.2.2 hne⟩
  · simp only [St.frozen, List.mem_map] at hx
    obtain ⟨x', hx', rfl⟩ := hx
    exact ⟨x'.2.2, hx', rfl⟩
  · simp only [St.frozen, List.mem_map, List.mem_filter, Bool.not_eq_true', beq_eq_false_iff_ne, ne_eq] at hx
    obtain ⟨x', ⟨hx', hne⟩, rfl⟩ := hx
    exact con_map (h.hp x' hx' hh) Ghost.frz_S hf rfl (fun b hb => hcol b x'.1 hne hb)
theorem keep_frz {B : Option Nat} (x : Cl) (v : Value) (hx : ClRep w G x v) : ClRep w (G.frz B) x v :=
  ClRep.keep (w := w) (G := G) (fun b hb => ⟨Ghost.frz_S b hb, rfl⟩) (fun _ _ => rfl) hx
theorem SR.freeze (h : SR w0 S0 G st a w) {r : Nat} {st' : St} (ha : Dir.app st (.freeze r) = some st') : ∃ B, SR w0 S0 (G.frz B) st' a w := by
  simp only [Dir.app] at ha
  split at ha
  · rename_i e t l hcon
    injection ha with ha
    subst ha
    have hcr := h.con_ holds_nil hcon
    obtain ⟨xs, hxl, ho, hm, hg⟩ := hcr
    have hS : ∀ b, G.S b → (G.frz (G.rho r).ownBlock).S b := Ghost.frz_S
    have hsl : ∀ (lo n : Nat) (ad : Option Addr) (c : Nat), lo + n ≤ l.length → (∃ a0 cap, G.rho r = .slice a0 l.length cap ∧ n ≤ c ∧ lo + c = cap ∧ ((c = 0 ∧ lo ≠ 0) ∨ ad = a0.map (·.add (lo * t.size)))) → Enc w (G.frz (G.rho r).ownBlock).S (.sl t) ((l.drop lo).take n) [.slice ad n c] := by
      rintro lo n ad c hln ⟨a0, cap, hv, hnc, hcap, hadr⟩
      have hll : ((l.drop lo).take n).length = n := by simp; omega
      rw [hv] at ho hg
      refine ⟨ad, c, by rw [hll], by rw [hll]; exact hnc, ?_, ?_⟩
      · obtain ⟨ad2, c2, e2, h3, h4, _⟩ := owns_form ho
        injection e2 with _ _ e2
        subst e2
        omega
      · rcases ho.2 with ⟨e0, h0⟩ | ⟨g, cap', cur, e0, hb0, hb, hnc', hcm, hcs, htk⟩
        · left; exact List.eq_nil_of_length_eq_zero (by rw [hll]; omega)
        · injection e0 with e2 e3 e4
          subst e2 e4
          by_cases hn0 : n = 0
          · left; exact List.eq_nil_of_length_eq_zero (by rw [hll]; omega)
          · right
            rcases hadr with ⟨h0, _⟩ | rfl
            · omega
            · refine ⟨g, lo * t.size, cur, e, (0, 0), (xs.drop (lo * t.size)).take (n * t.size), by simp [addr_add], .inr (by rw [hv]; rfl), hb, ?_, fun j u hj => ?_⟩
              · exact EncL.imp (fun _ _ hh => Enc.keep (fun b hb => ⟨hS b hb, rfl⟩) hh) (EncL.take (fun _ _ hh => Enc.length hh) n (EncL.drop (fun _ _ hh => Enc.length hh) lo hxl))
              · rw [List.getElem?_take] at hj
                split at hj
                · rw [List.getElem?_drop, ← htk, List.getElem?_take] at hj
                  split at hj
                  · simpa using hj
                  · cases hj
                · cases hj
    refine ⟨_, h.frozen (B := (G.rho r).ownBlock) hg ?_⟩
    intro x v hx
    unfold Cl.sub2
    split
    · rename_i q
      split
      · rename_i hq
        have hq' : q = r := by simpa using hq
        subst hq'
        obtain ⟨rfl, _⟩ := hx
        obtain ⟨ad, c, hv, hc, hm', _⟩ := owns_form ho
        have := hsl 0 l.length ad c (by omega) ⟨ad, c, hv, hc, by omega, .inr (by cases ad <;> simp [Addr.add])⟩
        simp only [List.drop_zero, List.take_length] at this
        show Enc w _ (.sl t) l [G.rho q]
        rw [hv] at this ⊢
        exact this
      · exact keep_frz _ _ hx
    · rename_i q lo n sz
      split
      · rename_i hq
        have hq' : q = r := by simpa using hq
        subst hq'
        split
        · rename_i hsz
          have hsz' : sz = t.size := by simpa using hsz
          subst hsz'
          obtain ⟨ad, len, cap, c, a', hv, hl, hn, hcap, rfl, ha', _⟩ := hx
          have hlen : len = l.length := by obtain ⟨ad2, c2, e2, _⟩ := owns_form ho; rw [hv] at e2; injection e2
          subst hlen
          exact hsl lo n a' c hl ⟨ad, cap, hv, hn, hcap, ha'⟩
        · trivial
      · exact keep_frz _ _ hx
    · split
      · trivial
      · exact keep_frz _ _ hx
  · rename_i k u l hcon
    injection ha with ha
    subst ha
    obtain ⟨g, es, ck, hr, hcol, hb, h2, _⟩ := h.con_ holds_nil hcon
    refine ⟨_, h.frozen (B := some g) (fun b hb => by injection hb with hb; subst hb; exact hcol) ?_⟩
    intro x v hx
    unfold Cl.subD
    split
    · rename_i q
      split
      · rename_i hq
        have hq' : q = r := by simpa using hq
        subst hq'
        obtain ⟨rfl, _⟩ := hx
        show Enc w _ (.mp k u) l [G.rho q]
        exact .inr ⟨g, es, ck, by rw [hr], .inr rfl, hb, All2.imp (fun _ _ _ ⟨⟨c1, a1, a2⟩, c2, b1, b2⟩ => ⟨⟨c1, Enc.keep (fun b hb => ⟨Ghost.frz_S b hb, rfl⟩) a1, a2⟩, c2, Enc.keep (fun b hb => ⟨Ghost.frz_S b hb, rfl⟩) b1, b2⟩) h2⟩
      · exact keep_frz _ _ hx
    · split
      · trivial
      · exact keep_frz _ _ hx
  · cases ha
theorem SR.freezeB (h : SR w0 S0 G st a w) {r : Nat} {t : Ty} {st' : St} (ha : Dir.app st (.freezeB r t) = some st') : ∃ B, SR w0 S0 (G.frz B) st' a w := by
  have key : ∀ {t : Ty} {x : t.T} {b : Nat} {vs : Array Value} {e : TypeId} {cs : List Value}, G.rho r = .pointer (some ⟨b, 0, none⟩) → G.col b = some r → w.heap[b]? = some (.cells vs e (0, 0)) → Enc w G.S t x cs → vs.toList = cs →
      SR w0 S0 (G.frz (some b)) (st.frozen r (Cl.subB (t := t) r x)) a w := by
    intro t x b vs e cs hr hcol hb henc hcs
    refine h.frozen (B := some b) (fun b' hb' => by injection hb' with hb'; subst hb'; exact hcol) ?_
    intro y v hy
    unfold Cl.subB
    split
    · rename_i q
      split
      · rename_i hq
        have hq' : q = r := by simpa using hq
        subst hq'
        obtain ⟨b', hr', rfl⟩ := hy
        rw [hr] at hr'
        injection hr' with hr'; injection hr' with hr'; injection hr' with hr' _; subst hr'
        refine ⟨b, 0, vs, e, (0, 0), cs, rfl, .inr rfl, hb, Enc.keep (fun b hb => ⟨Ghost.frz_S b hb, rfl⟩) henc, fun j u hj => ?_⟩
        rw [← hcs] at hj
        simpa using hj
      · exact keep_frz _ _ hy
    · split
      · trivial
      · exact keep_frz _ _ hy
  simp only [Dir.app] at ha
  split at ha
  · rename_i cs hcon
    obtain ⟨b, vs, e, hr, hcol, hb, h2⟩ := h.con_ holds_nil hcon
    split at ha
    · rename_i x hx
      injection ha with ha
      subst ha
      obtain ⟨c1, c2, e1, he, h3⟩ := coll_rep hx h2
      have : c2 = [] := by cases c2 with | nil => rfl | cons => exact h3.elim
      subst this
      rw [List.append_nil] at e1
      exact ⟨_, key hr hcol hb he e1⟩
    · cases ha
  · rename_i n u l hcon
    obtain ⟨b, vs, e, hr, hcol, hb, h2, hn⟩ := h.con_ holds_nil hcon
    split at ha
    · rename_i m
      injection ha with ha
      subst ha
      exact ⟨_, key (t := .ar m u) hr hcol hb ⟨hn, h2⟩ rfl⟩
    · cases ha
  · cases ha
theorem SR.freeze_col (h : SR w0 S0 G st a w) {r : Nat} {st' : St} (ha : Dir.app st (.freeze r) = some st') : ∃ G', SR w0 S0 G' st' a w ∧ ∀ b q, G'.col b = some q → G.col b = some q := by
  obtain ⟨B, hB⟩ := h.freeze ha
  refine ⟨_, hB, fun b q hq => ?_⟩
  have h' : (if B = some b then none else G.col b) = some q := hq
  split at h'
  · cases h'
  · exact h'
theorem SR.freezeB_col (h : SR w0 S0 G st a w) {r : Nat} {t : Ty} {st' : St} (ha : Dir.app st (.freezeB r t) = some st') : ∃ G', SR w0 S0 G' st' a w ∧ ∀ b q, G'.col b = some q → G.col b = some q := by
  obtain ⟨B, hB⟩ := h.freezeB ha
  refine ⟨_, hB, fun b q hq => ?_⟩
  have h' : (if B = some b then none else G.col b) = some q := hq
  split at h'
  · cases h'
  · exact h'
theorem Cl.ren_rep {r r' : Nat} {G' : Ghost} (hS : ∀ b, G.S b → G'.S b) (hr : ∀ q, q ≠ r' → G'.rho (if q == r then r' else q) = G.rho q) {x : Cl} {v : Value} (hx' : x.has r' = false) (hx : ClRep w G x v) : ClRep w G' (x.ren r r') v := by
  have hk : ∀ b, G.S b → G'.S b ∧ w.heap[b]? = w.heap[b]? := fun b hb => ⟨hS b hb, rfl⟩
  cases x with
  | p t x => exact Enc.keep hk hx
  | own q => obtain ⟨e, h2⟩ := hx; exact ⟨by rw [hr q (by simpa [Cl.has] using hx')]; exact e, h2⟩
  | vw q lo n sz => obtain ⟨a, len, cap, c, a', e, h2⟩ := hx; exact ⟨a, len, cap, c, a', by rw [hr q (by simpa [Cl.has] using hx')]; exact e, h2⟩
  | ptr q off => obtain ⟨b, e, h2⟩ := hx; exact ⟨b, by rw [hr q (by simpa [Cl.has] using hx')]; exact e, h2⟩
  | el q i sz => obtain ⟨g, n, c, e, h2⟩ := hx; exact ⟨g, n, c, by rw [hr q (by simpa [Cl.has] using hx')]; exact e, h2⟩
  | elf q i sz off => obtain ⟨g, n, c, e, h2⟩ := hx; exact ⟨g, n, c, by rw [hr q (by simpa [Cl.has] using hx')]; exact e, h2⟩
  | elv q i sz off n => obtain ⟨g, e, h2⟩ := hx; exact ⟨g, by rw [hr q (by simpa [Cl.has] using hx')]; exact e, h2⟩
  | ep q s off =>
    simp only [Cl.has, Bool.or_eq_false_iff, beq_eq_false_iff_ne] at hx'
    obtain ⟨g, o, e, h2⟩ := hx; exact ⟨g, o, by rw [hr s hx'.2]; exact e, h2⟩
  | yv q => exact ⟨by rw [hr q (by simpa [Cl.has] using hx')]; exact hx.1, hx.2⟩
  | ad t x => exact AdRep.keep hk hx
  | nils => exact hx
  | nilm => exact hx
  | fn f caps => obtain ⟨vs, e, h2⟩ := hx; exact ⟨vs, e, All2.imp (fun _ _ _ hh => AdRep.keep hk hh) h2⟩
  | cl f caps =>
    obtain ⟨vs, e, h2⟩ := hx
    refine ⟨vs, e, ?_⟩
    have key : ∀ {cs : List Cap} {us : List Value}, cs.any (·.has r') = false → All2 (CapRep w G) cs us → All2 (CapRep w G') (cs.map (Cap.ren r r')) us := by
      intro cs
      induction cs with
      | nil => intro us _ h; cases us with
        | nil => trivial
        | cons => exact h.elim
      | cons c cs ih =>
        intro us hh h
        simp only [List.any_cons, Bool.or_eq_false_iff] at hh
        cases us with
        | nil => exact h.elim
        | cons u us =>
          refine ⟨?_, ih hh.2 h.2⟩
          cases c with
          | pt q o =>
            obtain ⟨b, h3, h4⟩ := h.1
            exact ⟨b, by rw [hr q (by simpa [Cap.has] using hh.1)]; exact h3, h4⟩
          | ad d => exact AdRep.keep hk h.1
          | no => exact h.1
    exact key (by simpa [Cl.has] using hx') h2
  | any => trivial
end
end Dec
