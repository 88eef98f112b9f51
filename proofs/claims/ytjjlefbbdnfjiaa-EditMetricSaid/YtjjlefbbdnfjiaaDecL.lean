/-
  Calls; the forms of code; loops; the body of a function.
-/
import Derived.Test.YtjjlefbbdnfjiaaDecK
set_option linter.unusedSimpArgs false
set_option linter.unusedVariables false
namespace Dec
open Go Go.RowKit

section
variable {P : Program} {w0 w : World} {S0 : Nat → Prop} {G : Ghost} {st : St} {a : Act} {ops : Array Oper} {Q : XE → St → Prop}

theorem ACalls.mono {f : FuncId} {args : List V1} {K K' : List V1 → Prop} (h : ACalls P f args K) (hk : ∀ r, K r → K' r) : ACalls P f args K' := by
  intro w S vs hS hr
  refine (h w S vs hS hr).mono ?_
  rintro e w' ⟨us, res, S', h1, h2, h3, h4, h5⟩
  exact ⟨us, res, S', h1, h2, h3, h4, hk _ h5⟩

/-- nothing that is there turns; more is known of what nobody turns -/
theorem SR.called (h : SR w0 S0 G st a w) {w' : World} {S' : Nat → Prop} (hb : Below w.heap.size w w') (hS : ∀ b, S' b → b < w'.heap.size ∧ (G.S b ∨ w.heap.size ≤ b)) :
    SR w0 S0 { G with S := fun b => G.S b ∨ S' b } st a w' := by
  refine h.move (fun _ => False) (fun b hb' => ⟨.inl hb', hb.block b (h.sub b hb').1⟩) (fun _ _ => rfl) (fun b r _ hc => ⟨hc, hb.block b (h.colr b r hc).2.1⟩) (h.below.trans (hb.mono h.below_size)) ?_ ?_ rfl (fun e he => ⟨he, fun _ _ hf => hf⟩) (fun e he => ⟨he, fun hf => hf, fun _ _ hf => hf⟩)
  · intro b hb'
    have hsz := hb.size
    rcases hb' with h1 | h1
    · have := h.sub b h1; exact ⟨by omega, this.2⟩
    · obtain ⟨h2, h3⟩ := hS b h1
      refine ⟨h2, ?_⟩
      rcases h3 with h3 | h3
      · exact (h.sub b h3).2
      · have := h.below_size; exact .inr (by omega)
  · intro b r hc
    have h1 := h.colr b r hc
    have hsz := hb.size
    refine ⟨h1.1, by omega, ?_⟩
    rintro (h2 | h2)
    · exact h1.2.2 h2
    · rcases (hS b h2).2 with h3 | h3
      · exact h1.2.2 h3
      · omega

theorem SR.lent (h : SR w0 S0 G st a w) {w' : World} (hb : Below w.heap.size w w') : SR w0 S0 G st a w' := by
  refine h.move (fun _ => False) (fun b hb' => ⟨hb', hb.block b (h.sub b hb').1⟩) (fun _ _ => rfl) (fun b r _ hc => ⟨hc, hb.block b (h.colr b r hc).2.1⟩) (h.below.trans (hb.mono h.below_size)) ?_ ?_ rfl (fun e he => ⟨he, fun _ _ hf => hf⟩) (fun e he => ⟨he, fun hf => hf, fun _ _ hf => hf⟩)
  · intro b hb'
    have hsz := hb.size
    have := h.sub b hb'; exact ⟨by omega, this.2⟩
  · intro b r hc
    have h1 := h.colr b r hc
    have hsz := hb.size
    exact ⟨h1.1, by omega, h1.2.2⟩

theorem scalar_rep {w w' : World} {G : Ghost} {S : Nat → Prop} {x : V1} {v : Value} (hs : scalar x = true) (h : PRep w S x v) : PRep w' G.S x v := by
  obtain ⟨t, y, cs, rfl, he, rfl⟩ := h
  cases t with
  | int k => exact ⟨.int k, y, cs, rfl, he, rfl⟩
  | bool => exact ⟨.bool, y, cs, rfl, he, rfl⟩
  | sl t => simp [toV1, scalar] at hs
  | pr u v => simp [toV1, scalar] at hs

theorem run_callFn {c : Call} {f : FuncId} {ty : TypeId} (hc : c.callee = .value (.func f)) (hf : ∀ (args : Array Value) (w : World), (callFunc f args).run P w = .ok (.enter f args) w) (o : Oper) (ho : o.op = .call c) :
    (execOp a.eval o).run P w = .ok (.enter f (c.args.toList.map a.eval).toArray) w := by
  unfold execOp
  simp only [ho, resolve, hc, Act.eval, Deferred.ofValue, invoke, Sem.run_bind, Sem.run_pure, Result.andThen_ok]
  rw [hf]
  congr 2
  apply Array.ext'
  simp

/-- **A CALL OF A FUNCTION UNDER CONTRACT** (guarded by a path or not; own slices may be lent, where numbers and bools come back) -/
theorem awl_call {o : Oper} {rest : List Oper} {c : Call} {d : Nat} {f : FuncId} {p : Path} (own : Bool) (tys : List Ty) {l : List V1} (hg : guardPath ops st o.guard = some p) (hd : o.dst = some d)
    (hck : (decide (d < st.n) && !onPath d p && pathOk st [] p) = true) (ho : o.op = .call c) (hc : c.callee = .value (.func f)) (hf : ∀ (args : Array Value) (w : World), (callFunc f args).run P w = .ok (.enter f args) w)
    (hargs : argsOf st p own tys c.args.toList = some l)
    (hT : pathB st [] p = true → ACalls P f l fun res => (own = true → res.all scalar = true) ∧ AWL P ops rest Q (st.put d p (resAV res)))
    (hF : pathB st [] p = false → ∃ res, AWL P ops rest Q (st.put d p (resAV res))) : AWL P ops (o :: rest) Q st := by
  intro w0 S0 G a w hs
  simp only [Bool.and_eq_true, decide_eq_true_eq, Bool.not_eq_true'] at hck
  obtain ⟨⟨hdn, hp⟩, hok⟩ := hck
  have hw := guard_wanted hg hs
  have hpb := path_iff hs holds_nil hok
  refine wpList_step fun K hK => ?_
  by_cases hh : Holds a p
  · rw [if_pos (hw.2 hh)]
    unfold Oper.wp
    rw [run_callFn (ty := o.type) hc hf o ho, Oper.upon_enter]
    have hr := argsOf_rep hs hh hargs
    have hS : ∀ b, (if own then G.all else G.S) b → b < w.heap.size := by
      intro b hb
      cases own with
      | false => exact (hs.sub b hb).1
      | true =>
        rcases hb with h1 | ⟨r, h1⟩
        · exact (hs.sub b h1).1
        · exact (hs.colr b r h1).2.1
    refine (hT (hpb.1 hh) w _ _ hS hr).mono ?_
    rintro e w' ⟨us, res, S', rfl, h2, h3, h4, h5, h6⟩
    simp only [hd]
    refine hK _ _ ?_
    cases own with
    | false =>
      have hs' := hs.called h2 h3
      refine h6 _ _ _ _ _ (hs'.put hdn hp (fun _ => ret_rep (G := { G with S := fun b => G.S b ∨ S' b }) ?_) (fun hn => absurd hh hn))
      exact All2.imp (fun _ _ _ hx => PRep.keep (fun b hb => ⟨.inr hb, rfl⟩) hx) h4
    | true =>
      have hs' := hs.lent h2
      refine h6 _ _ _ _ _ (hs'.put hdn hp (fun _ => ret_rep ?_) (fun hn => absurd hh hn))
      have h5' := h5 rfl
      rw [List.all_eq_true] at h5'
      exact All2.imp (fun x hx _ hv => scalar_rep (h5' x hx) hv) h4
  · rw [if_neg (fun e => hh (hw.1 e)), hd]
    have hpf : pathB st [] p = false := by
      cases hb : pathB st [] p with
      | false => rfl
      | true => exact absurd (hpb.2 hb) hh
    obtain ⟨res, hres⟩ := hF hpf
    exact hK _ _ (hres _ _ _ _ _ (hs.put hdn hp (fun h => absurd h hh) (fun _ => rfl)))

/-! ### the forms of code -/

theorem QC.imp {Q' : XE → St → Prop} (h : ∀ e s, Q e s → Q' e s) : ∀ (e : Exit) (a : Act) (w : World), QC w0 S0 Q e a w → QC w0 S0 Q' e a w
  | .normal, _, _, ⟨G, st, hs, hq⟩ => ⟨G, st, hs, h _ _ hq⟩
  | .exit _, _, _, ⟨G, st, hs, hq⟩ => ⟨G, st, hs, h _ _ hq⟩
  | .ret, _, _, ⟨G, st, hs, hq⟩ => ⟨G, st, hs, h _ _ hq⟩
  | .goto _, _, _, h => h.elim
  | .panic _, _, _, h => h.elim
  | .outgrown, _, _, h => h.elim

theorem AW.mono {c : Code} {Q' : XE → St → Prop} (h : AW P c Q st) (hq : ∀ e s, Q e s → Q' e s) : AW P c Q' st :=
  fun w0 S0 G a w hs => Go.wp_mono (h w0 S0 G a w hs) (QC.imp hq)

/-- what follows, in the place of the normal end -/
def thenQ (K : St → Prop) (Q : XE → St → Prop) : XE → St → Prop
  | .n, s => K s
  | e, s => Q e s

theorem aw_seq {x y : Code} (h : AW P x (thenQ (AW P y Q) Q) st) : AW P (.seq x y) Q st := by
  intro w0 S0 G a w hs
  refine wp_seq (Go.wp_mono (h w0 S0 G a w hs) ?_)
  intro e a' w' hq
  cases e with
  | normal => obtain ⟨G', st', hs', hq'⟩ := hq; exact hq' _ _ _ _ _ hs'
  | exit id => obtain ⟨G', st', hs', hq'⟩ := hq; exact ⟨G', st', hs', hq'⟩
  | ret => obtain ⟨G', st', hs', hq'⟩ := hq; exact ⟨G', st', hs', hq'⟩
  | goto l => exact hq.elim
  | panic c => exact hq.elim
  | outgrown => exact hq.elim

theorem aw_region {id : Nat} {l : List Oper} (h : AWL P l.toArray l Q st) : AW P (.region id l.toArray false) Q st :=
  fun w0 S0 G a w hs => wp_region_lit (h w0 S0 G a w hs)

theorem aw_skip (h : Q .n st) : AW P .skip Q st := fun _ _ G _ _ hs => wp_skip ⟨G, st, hs, h⟩
theorem aw_exit {id : Nat} (h : Q (.x id) st) : AW P (.exit id) Q st := fun _ _ G _ _ hs => wp_exit ⟨G, st, hs, h⟩
theorem aw_ret (h : Q .r st) : AW P .ret Q st := fun _ _ G _ _ hs => wp_ret ⟨G, st, hs, h⟩

theorem aw_cond {c : Operand} {x y : Code} {b : Bool} (hc : st.val [] c = some (.v (.c (.p .bool b)))) (h1 : b = true → AW P x Q st) (h2 : b = false → AW P y Q st) : AW P (.cond c x y) Q st := by
  intro w0 S0 G a w hs
  have hv := rep_pB (hs.val_ holds_nil hc)
  refine wp_cond_split (t := b) hv (fun hb => h1 hb _ _ _ _ _ hs) (fun hb => h2 hb _ _ _ _ _ hs)

def blockQ (id : Nat) (Q : XE → St → Prop) : XE → St → Prop
  | .x id', s => if id' == id then Q .n s else Q (.x id') s
  | e, s => Q e s

theorem aw_block {id : Nat} {c : Code} (h : AW P c (blockQ id Q) st) : AW P (.block id c) Q st := by
  intro w0 S0 G a w hs
  refine wp_block (Go.wp_mono (h w0 S0 G a w hs) ?_)
  intro e a' w' hq
  cases e with
  | normal => obtain ⟨G', st', hs', hq'⟩ := hq; exact ⟨G', st', hs', hq'⟩
  | exit id' =>
    obtain ⟨G', st', hs', hq'⟩ := hq
    simp only [blockQ] at hq'
    simp only [Exit.inBlock]
    by_cases hid : id' = id
    · rw [if_pos hid]; rw [if_pos (by simpa using hid)] at hq'; exact ⟨G', st', hs', hq'⟩
    · rw [if_neg hid]; rw [if_neg (by simpa using hid)] at hq'; exact ⟨G', st', hs', hq'⟩
  | ret => obtain ⟨G', st', hs', hq'⟩ := hq; exact ⟨G', st', hs', hq'⟩
  | goto l => exact hq.elim
  | panic c => exact hq.elim
  | outgrown => exact hq.elim

/-! ### a state is told anew -/

inductive Dir where
  | prune (sl hp : List Nat)
  | freeze (r : Nat)
  | nilOwn (i r : Nat) (e : TypeId) (t : Ty)
  | nilP (i : Nat) (t : Ty)
  | ren (r r' : Nat)
  | cut (i r : Nat)

def pick {α : Type} (l : List (Nat × α)) : List Nat → List (Nat × α)
  | [] => []
  | i :: r => match lk l i with
    | some x => (i, x) :: pick l r
    | none => pick l r

theorem pick_mem {α : Type} {l : List (Nat × α)} : ∀ {is : List Nat} {e : Nat × α}, e ∈ pick l is → e ∈ l
  | [], _, h => by simp [pick] at h
  | i :: r, e, h => by
    simp only [pick] at h
    split at h
    · rename_i x hx
      rcases List.mem_cons.1 h with rfl | h
      · exact lk_mem hx
      · exact pick_mem h
    · exact pick_mem h

def Cl.sub (r : Nat) (y : Cl) (x : Cl) : Cl :=
  match x with
  | .own q => if q == r then y else x
  | x => x

def Cl.sub2 {t : Ty} (r : Nat) (l : List t.T) (x : Cl) : Cl :=
  match x with
  | .own q => if q == r then .p (.sl t) l else x
  | .vw q lo n sz => if q == r then (if sz == t.size then .p (.sl t) ((l.drop lo).take n) else .any) else x
  | .el q i sz => if q == r then .any else x
  | .ptr q o => if q == r then .any else x
  | x => x

def V1.map (f : Cl → Cl) : V1 → V1
  | .c x => .c (f x)
  | .agg cs => .agg (cs.map f)

def AV.map (f : Cl → Cl) : AV → AV
  | .v x => .v (x.map f)
  | .tup xs => .tup (xs.map (·.map f))

def Con.map (f : Cl → Cl) : Con → Con
  | .box cs => .box (cs.map f)
  | c => c

def Cl.ren (r r' : Nat) : Cl → Cl
  | .own q => .own (if q == r then r' else q)
  | .vw q lo n sz => .vw (if q == r then r' else q) lo n sz
  | .ptr q o => .ptr (if q == r then r' else q) o
  | .el q i sz => .el (if q == r then r' else q) i sz
  | x => x

def Dir.app (st : St) : Dir → Option St
  | .prune sl hp => some { st with sl := pick st.sl sl, hp := pick st.hp hp }
  | .freeze r => match st.con [] r with
    | some (.arr _ t l) => some { st with sl := st.sl.map (fun e => (e.1, e.2.1, e.2.2.map (Cl.sub2 (t := t) r l))), hp := (st.hp.filter (fun e => !(e.1 == r))).map (fun e => (e.1, e.2.1, e.2.2.map (Cl.sub2 (t := t) r l))) }
    | _ => none
  | .nilOwn i r e t => match st.get [] i with
    | some (.v (.c .nils)) => if decide (i < st.n) then some (((st.purge r).own r [] (.arr e t [])).put i [] (.v (.c (.own r)))) else none
    | _ => none
  | .nilP i t => match st.get [] i with
    | some (.v (.c .nils)) => if decide (i < st.n) then some (st.put i [] (.v (.c (.p (.sl t) [])))) else none
    | _ => none
  | .ren r r' => some (let s := st.purge r'; { s with sl := s.sl.map (fun e => (e.1, e.2.1, e.2.2.map (Cl.ren r r'))), hp := s.hp.map (fun e => (if e.1 == r then r' else e.1, e.2.1, e.2.2.map (Cl.ren r r'))) })
  | .cut i r => none

theorem put_same {i : Nat} (h : i < a.tmps.size) : a.put (some i) (a.tmps.getD i undef) = a := by
  cases a with
  | mk tmps defers =>
    simp only [Act.put]
    congr 1
    apply Array.ext'
    rw [Array.toList_setIfInBounds]
    have e : tmps.getD i undef = tmps.toList[i]'(by simpa using h) := by simp [Array.getD, h]
    rw [e, List.set_getElem_self]

theorem All2.map_left {α β γ : Type} {R : α → β → Prop} {R' : γ → β → Prop} {f : α → γ} (hf : ∀ x v, R x v → R' (f x) v) : ∀ {l : List α} {m : List β}, All2 R l m → All2 R' (l.map f) m
  | [], [], _ => trivial
  | _ :: _, _ :: _, h => ⟨hf _ _ h.1, All2.map_left hf h.2⟩
  | [], _ :: _, h => h.elim
  | _ :: _, [], h => h.elim

theorem SR.sub_map (h : SR w0 S0 G st a w) {st' : St} {G' : Ghost} (f : Cl → Cl) (hS : ∀ b, G.S b → G'.S b) (hf : ∀ x v, ClRep w G x v → ClRep w G' (f x) v)
    (sub : ∀ b, G'.S b → b < w.heap.size ∧ (S0 b ∨ w0.heap.size ≤ b)) (colr : ∀ b r, G'.col b = some r → w0.heap.size ≤ b ∧ b < w.heap.size ∧ ¬ G'.S b) (hn : st'.n = st.n)
    (hsl : ∀ e ∈ st'.sl, ∃ x, (e.1, e.2.1, x) ∈ st.sl ∧ e.2.2 = x.map f) (hhp : ∀ e ∈ st'.hp, Holds a e.2.1 → ConRep w0.heap.size w G' e.1 e.2.2) : SR w0 S0 G' st' a w where
  below := h.below
  sub := sub
  colr := colr
  df := h.df
  size := h.size.trans hn.symm
  sl := fun e he => by
    obtain ⟨x, hx, e2⟩ := hsl e he
    obtain ⟨h1, h2, h3⟩ := h.sl _ hx
    refine ⟨hn ▸ h1, fun hh => ?_, h3⟩
    rw [e2]
    have hx2 := h2 hh
    have v1 : ∀ (y : V1) (v : Value), V1Rep w G y v → V1Rep w G' (V1.map f y) v := by
      intro y v hy
      cases y with
      | c y => exact hf _ _ hy
      | agg cs =>
        obtain ⟨vs, e3, h4⟩ := hy
        exact ⟨vs, e3, h4.map_left hf⟩
    cases x with
    | v y => exact v1 _ _ hx2
    | tup ys =>
      obtain ⟨vs, e3, h4⟩ := hx2
      exact ⟨vs, e3, h4.map_left v1⟩
  hp := hhp

theorem box_map {base r r' : Nat} {w : World} {G G' : Ghost} {f : Cl → Cl} {cs : List Cl} (h : ConRep base w G r (.box cs)) (hf : ∀ x v, ClRep w G x v → ClRep w G' (f x) v) (hr : G'.rho r' = G.rho r) (hc : ∀ b, G.col b = some r → G'.col b = some r') :
    ConRep base w G' r' (.box (cs.map f)) := by
  obtain ⟨b, vs, e, h1, h2, h3, h4⟩ := h
  exact ⟨b, vs, e, by rw [hr]; exact h1, hc b h2, h3, h4.map_left hf⟩

theorem arr_map {base r r' : Nat} {w : World} {G G' : Ghost} {e : TypeId} {t : Ty} {l : List t.T} (h : ConRep base w G r (.arr e t l)) (hS : ∀ b, G.S b → G'.S b) (hr : G'.rho r' = G.rho r) (hc : ∀ b, G.col b = some r → G'.col b = some r') :
    ConRep base w G' r' (.arr e t l) := by
  obtain ⟨xs, h1, h2, h3, h4⟩ := h
  exact ⟨xs, EncL.imp (fun _ _ hh => Enc.keep (fun b hb => ⟨hS b hb, rfl⟩) hh) h1, by rw [hr]; exact h2, h3, by rw [hr]; exact fun g hg => hc g (h4 g hg)⟩

theorem SR.freeze (h : SR w0 S0 G st a w) {r : Nat} {st' : St} (ha : Dir.app st (.freeze r) = some st') : ∃ G', SR w0 S0 G' st' a w := by
  simp only [Dir.app] at ha
  split at ha
  · rename_i e t l hcon
    injection ha with ha
    have hcr := h.con_ holds_nil hcon
    obtain ⟨xs, hxl, ho, hm, hg⟩ := hcr
    let G' : Ghost := { S := fun b => G.S b ∨ (G.rho r).ownBlock = some b, col := fun b => if (G.rho r).ownBlock = some b then none else G.col b, rho := G.rho }
    have hS : ∀ b, G.S b → G'.S b := fun b hb => .inl hb
    have hcol : ∀ b q, q ≠ r → G.col b = some q → G'.col b = some q := by
      intro b q hq hb
      show (if (G.rho r).ownBlock = some b then none else G.col b) = some q
      rw [if_neg]
      · exact hb
      · intro e
        have := hg b e
        rw [hb] at this
        injection this with this
        exact hq this
    have hkeep : ∀ x v, ClRep w G x v → ClRep w G' x v := fun x v hx => ClRep.keep (w := w) (G := G) (fun b hb => ⟨hS b hb, rfl⟩) (fun _ _ => rfl) hx
    have hsl : ∀ (lo n : Nat) (ad : Option Addr) (c : Nat), lo + n ≤ l.length → (∃ a0 cap, G.rho r = .slice a0 l.length cap ∧ n ≤ c ∧ lo + c = cap ∧ ((c = 0 ∧ lo ≠ 0) ∨ ad = a0.map (·.add (lo * t.size)))) → Enc w G'.S (.sl t) ((l.drop lo).take n) [.slice ad n c] := by
      rintro lo n ad c hln ⟨a0, cap, hv, hnc, hcap, hadr⟩
      have hll : ((l.drop lo).take n).length = n := by simp; omega
      rw [hv] at ho hg
      refine ⟨ad, c, by rw [hll], by rw [hll]; exact hnc, ?_, ?_⟩
      · obtain ⟨ad2, c2, e2, h3, h4, _⟩ := owns_form ho
        injection e2 with _ _ e2
        subst e2
        omega
      · rcases ho.2 with ⟨e0, h0⟩ | ⟨g, cap', cur, e0, hb0, hb, hnc', hcm, hcs, htk⟩
        · left; exact List.eq_nil_of_length_eq_zero (by rw [hll]; omega)
        · injection e0 with e2 e3 e4
          subst e2 e4
          by_cases hn0 : n = 0
          · left; exact List.eq_nil_of_length_eq_zero (by rw [hll]; omega)
          · right
            rcases hadr with ⟨h0, _⟩ | rfl
            · omega
            · refine ⟨g, lo * t.size, cur, e, (0, 0), (xs.drop (lo * t.size)).take (n * t.size), by simp [addr_add], .inr (by rw [hv]; rfl), hb, ?_, fun j u hj => ?_⟩
              · exact EncL.imp (fun _ _ hh => Enc.keep (fun b hb => ⟨hS b hb, rfl⟩) hh) (EncL.take (fun _ _ hh => Enc.length hh) n (EncL.drop (fun _ _ hh => Enc.length hh) lo hxl))
              · rw [List.getElem?_take] at hj
                split at hj
                · rw [List.getElem?_drop, ← htk, List.getElem?_take] at hj
                  split at hj
                  · simpa using hj
                  · cases hj
                · cases hj
    have hf : ∀ x v, ClRep w G x v → ClRep w G' (Cl.sub2 (t := t) r l x) v := by
      intro x v hx
      unfold Cl.sub2
      split
      · rename_i q
        split
        · rename_i hq
          have hq' : q = r := by simpa using hq
          subst hq'
          obtain ⟨rfl, _⟩ := hx
          obtain ⟨ad, c, hv, hc, hm', _⟩ := owns_form ho
          have := hsl 0 l.length ad c (by omega) ⟨ad, c, hv, hc, by omega, .inr (by cases ad <;> simp [Addr.add])⟩
          simp only [List.drop_zero, List.take_length] at this
          show Enc w G'.S (.sl t) l [G.rho q]
          rw [hv]
          exact this
        · exact hkeep _ _ hx
      · rename_i q lo n sz
        split
        · rename_i hq
          have hq' : q = r := by simpa using hq
          subst hq'
          split
          · rename_i hsz
            have hsz' : sz = t.size := by simpa using hsz
            subst hsz'
            obtain ⟨ad, len, cap, c, a', hv, hl, hn, hcap, rfl, ha', _⟩ := hx
            have hlen : len = l.length := by obtain ⟨ad2, c2, e2, _⟩ := owns_form ho; rw [hv] at e2; injection e2
            subst hlen
            exact hsl lo n a' c hl ⟨ad, cap, hv, hn, hcap, ha'⟩
          · trivial
        · exact hkeep _ _ hx
      · split
        · trivial
        · exact hkeep _ _ hx
      · split
        · trivial
        · exact hkeep _ _ hx
      · exact hkeep _ _ hx
    refine ⟨G', h.sub_map (Cl.sub2 (t := t) r l) hS hf ?_ ?_ (by rw [← ha]) (fun x hx => ?_) (fun x hx hh => ?_)⟩
    · rintro b (hb | hb)
      · exact h.sub b hb
      · have := h.colr b r (hg b hb)
        exact ⟨this.2.1, .inr this.1⟩
    · intro b q hq
      have hq' : (if (G.rho r).ownBlock = some b then none else G.col b) = some q := hq
      split at hq'
      · cases hq'
      · rename_i hne
        have := h.colr b q hq'
        exact ⟨this.1, this.2.1, fun hh => hh.elim this.2.2 hne⟩
    · subst ha
      simp only [List.mem_map] at hx
      obtain ⟨x', hx', rfl⟩ := hx
      exact ⟨x'.2.2, hx', rfl⟩
    · subst ha
      simp only [List.mem_map, List.mem_filter, Bool.not_eq_true', beq_eq_false_iff_ne, ne_eq] at hx
      obtain ⟨x', ⟨hx', hne⟩, rfl⟩ := hx
      have := h.hp x' hx' hh
      obtain ⟨i, q, c⟩ := x'
      cases c with
      | box cs => exact box_map this hf rfl (fun b hb => hcol b i hne hb)
      | arr e' t' l' => exact arr_map this hS rfl (fun b hb => hcol b i hne hb)
  · cases ha

theorem Cl.ren_rep {r r' : Nat} {G' : Ghost} (hS : ∀ b, G.S b → G'.S b) (hr : ∀ q, q ≠ r' → G'.rho (if q == r then r' else q) = G.rho q) {x : Cl} {v : Value} (hx' : x.has r' = false) (hx : ClRep w G x v) : ClRep w G' (x.ren r r') v := by
  have hk : ∀ b, G.S b → G'.S b ∧ w.heap[b]? = w.heap[b]? := fun b hb => ⟨hS b hb, rfl⟩
  cases x with
  | p t x => exact Enc.keep hk hx
  | own q => obtain ⟨e, h2⟩ := hx; exact ⟨by rw [hr q (by simpa [Cl.has] using hx')]; exact e, h2⟩
  | vw q lo n sz => obtain ⟨a, len, cap, c, a', e, h2⟩ := hx; exact ⟨a, len, cap, c, a', by rw [hr q (by simpa [Cl.has] using hx')]; exact e, h2⟩
  | ptr q off => obtain ⟨b, e, h2⟩ := hx; exact ⟨b, by rw [hr q (by simpa [Cl.has] using hx')]; exact e, h2⟩
  | el q i sz => obtain ⟨g, n, c, e, h2⟩ := hx; exact ⟨g, n, c, by rw [hr q (by simpa [Cl.has] using hx')]; exact e, h2⟩
  | ad t x => obtain ⟨b, off, cells, e, fz, cs, ev, hS', hb, hxx, hj⟩ := hx; exact ⟨b, off, cells, e, fz, cs, ev, hS b hS', hb, Enc.keep hk hxx, hj⟩
  | nils => exact hx
  | any => trivial
end
end Dec
