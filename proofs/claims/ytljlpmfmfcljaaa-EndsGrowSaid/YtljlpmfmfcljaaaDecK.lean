/-
The steps of a region, the calls, and the forms of code, over plain states.
-/
import Derived.Test.YtljlpmfmfcljaaaDecDb
set_option linter.unusedSimpArgs false
set_option linter.unusedVariables false
namespace Dec
open Go Go.RowKit
variable {M : Md → Prop}
/-! ### paths -/
def pathB (st : St) : Path → Path → Bool
  | _, [] => true
  | acc, (t, b) :: r => match st.get acc t with
    | some (.v (.c (.p .bool x))) => match r with
      | [] => if b then x else !x
      | r => (if b then x else !x) && pathB st (acc ++ [(t, b)]) r
    | _ => false
def pathOk (st : St) : Path → Path → Bool
  | _, [] => true
  | acc, (t, b) :: r => match st.get acc t with
    | some (.v (.c (.p .bool _))) => pathOk st (acc ++ [(t, b)]) r
    | _ => false
def pathImp (st : St) : Path → Path → Prop → Prop
  | _, [], ob => ob
  | acc, (t, b) :: r, ob => match st.get acc t with
    | some (.v (.c (.p .bool x))) => x = b → pathImp st (acc ++ [(t, b)]) r ob
    | _ => pathImp st (acc ++ [(t, b)]) r ob
section
variable {P : Program} {w0 w : World} {S0 : Base} {G : Ghost} {st : St} {a : Act}
theorem holds_append {p q : Path} : Holds a (p ++ q) ↔ Holds a p ∧ Holds a q := by
  constructor
  · intro h
    exact ⟨fun x hx => h x (List.mem_append_left _ hx), fun x hx => h x (List.mem_append_right _ hx)⟩
  · rintro ⟨h1, h2⟩ x hx
    rcases List.mem_append.1 hx with hx | hx
    · exact h1 x hx
    · exact h2 x hx
theorem path_iff (hs : SR w0 S0 G st a w) : ∀ {r acc : Path}, Holds a acc → pathOk st acc r = true → (Holds a r ↔ pathB st acc r = true)
  | [], _, _, _ => by simp [pathB, Holds]
  | (t, b) :: r, acc, hacc, hok => by
    simp only [pathOk] at hok
    split at hok
    · rename_i x hx
      have hv := rep_pB (hs.get_ hacc hx)
      have hcons : Holds a ((t, b) :: r) ↔ x = b ∧ Holds a r := by
        constructor
        · intro h
          have h1 := h (t, b) (by simp)
          simp only at h1
          rw [hv] at h1
          injection h1 with h1
          exact ⟨h1, fun y hy => h y (by simp [hy])⟩
        · rintro ⟨h1, h2⟩ y hy
          rcases List.mem_cons.1 hy with rfl | hy
          · simp only; rw [hv, h1]
          · exact h2 y hy
      have hhead : ((if b then x else !x) = true) ↔ x = b := by cases b <;> cases x <;> simp
      rw [hcons]
      by_cases hxb : x = b
      · have hacc' : Holds a (acc ++ [(t, b)]) := holds_snoc hacc (by rw [hv, hxb])
        have ih := path_iff hs hacc' hok
        cases r with
        | nil => simp only [pathB, hx]; rw [hhead]; simp [Holds]
        | cons y r =>
          simp only [pathB, hx, Bool.and_eq_true]
          rw [hhead, ih]
      · constructor
        · rintro ⟨h1, _⟩; exact absurd h1 hxb
        · intro h
          exfalso
          cases r with
          | nil => simp only [pathB, hx] at h; exact hxb (hhead.1 h)
          | cons y r => simp only [pathB, hx, Bool.and_eq_true] at h; exact hxb (hhead.1 h.1)
    · cases hok
theorem pathImp_out (hs : SR w0 S0 G st a w) {ob : Prop} : ∀ {r acc : Path}, Holds a acc → Holds a r → pathImp st acc r ob → ob
  | [], _, _, _, h => h
  | (t, b) :: r, acc, hacc, hr, h => by
    have hr' : Holds a r := fun y hy => hr y (by simp [hy])
    have ht := hr (t, b) (by simp)
    have hacc' : Holds a (acc ++ [(t, b)]) := holds_snoc hacc ht
    simp only [pathImp] at h
    split at h
    · rename_i x hx
      have hv := rep_pB (hs.get_ hacc hx)
      simp only at ht
      rw [hv] at ht
      injection ht with ht
      exact pathImp_out hs hacc' hr' (h ht)
    · exact pathImp_out hs hacc' hr' h
end
def guardPath (ops : Array Oper) (st : St) (g : Option (Nat × Bool)) : Option Path :=
  match g with
  | none => some []
  | some (j, b) => match ops[j]? with
    | some o => match o.dst with
      | some t => if t < st.n then match lk st.sl t with
        | some (q, _) => some (q ++ [(t, b)])
        | none => none
        else none
      | none => none
    | none => none
def convOk (P : Program) (op : Op) : Bool :=
  match op with
  | .convert s _ _ => (P.underlying s).isSome
  | _ => true
def evalW (P : Program) (st : St) (op : Op) : Option (Prop × Nat × Con) :=
  match evalU P st op with
  | some (r, c) => some (True, r, c)
  | none => evalUD P st op
def step1 (P : Program) (ops : Array Oper) (o : Oper) (st : St) : Option (Prop × St × List Nat) :=
  match guardPath ops st o.guard with
  | none => none
  | some p => match o.dst with
    | none => match p with
      | [] => match evalW P st o.op with
        | some (ob, r, c) => some (ob, st.upd r c, [r])
        | none => none
      | _ => none
    | some d => if decide (d < st.n) && !onPath d p && convOk P o.op then (match evalZD P st p o.op with
      | some (ob, x) => some (pathImp st [] p ob, st.put d p x, [])
      | none => match evalN P st p o.op with
        | some (ob, c, b) => if c.clean d then some (pathImp st [] p ob, st.made d p c b, []) else none
        | none => match p with
          | [] => match evalA P st o.op with
            | some (ob, k, c) => some (ob, st.appended d k c, k.toList)
            | none => match evalN2 P st [] o.op with
              | some (ob, c) => some (ob, st.appended d none c, [])
              | none => match evalM P st o.op with
                | some (ob, r, c, z) => some (ob, (st.upd r c).put d [] z, [r])
                | none => none
          | _ => none) else none
def run (P : Program) (ops : Array Oper) : Nat → List Oper → St → Option (Prop × St)
  | 0, _, st => some (True, st)
  | _ + 1, [], _ => none
  | n + 1, o :: r, st => match step1 P ops o st with
    | some (ob, st1, _) => match run P ops n r st1 with
      | some (ob2, st2) => some (ob ∧ ob2, st2)
      | none => none
    | none => none
abbrev Fm : Md → Prop := fun m => m = none
inductive XE where
  | n
  | x (id : Nat)
  | r
def QC (w0 : World) (S0 : Base) (Q : XE → St → Prop) : Exit → Act → World → Prop
  | .normal, a, w => ∃ G st, SR w0 S0 G st a w ∧ Q .n st
  | .exit id, a, w => ∃ G st, SR w0 S0 G st a w ∧ Q (.x id) st
  | .ret, a, w => ∃ G st, SR w0 S0 G st a w ∧ Q .r st
  | _, _, _ => False
def AWL (M : Md → Prop) (P : Program) (ops : Array Oper) (l : List Oper) (Q : XE → St → Prop) (st : St) : Prop :=
  ∀ (m : Subtype M) (w0 : World) (S0 : Base) G a w, SR w0 S0 G st a w → lwp m.1 P ops (QC w0 S0 Q) l a w
def AW (M : Md → Prop) (P : Program) (c : Code) (Q : XE → St → Prop) (st : St) : Prop :=
  ∀ (m : Subtype M) (w0 : World) (S0 : Base) G a w, SR w0 S0 G st a w → cwp m.1 P c (QC w0 S0 Q) a w
section
variable {P : Program} {w0 w : World} {S0 : Base} {G : Ghost} {st : St} {a : Act} {ops : Array Oper} {Q : XE → St → Prop}
theorem undef_ne_bool (b : Bool) : undef ≠ Value.bool b := by unfold undef; intro h; cases h
theorem guard_wanted {o : Oper} {p : Path} (hg : guardPath ops st o.guard = some p) (hs : SR w0 S0 G st a w) : Region.wanted o (yielded ops a.tmps) = true ↔ Holds a p := by
  unfold guardPath at hg
  split at hg
  · rename_i hno
    injection hg with hg
    subst hg
    simp [Region.wanted, hno, Holds]
  · rename_i j b hgd
    split at hg
    · rename_i o' ho'
      split at hg
      · rename_i t ht
        split at hg
        · rename_i hin
          split at hg
          · rename_i q x hl
            injection hg with hg
            subst hg
            obtain ⟨h1, h2, h3⟩ := hs.sl _ (lk_mem hl)
            have hsz : t < a.tmps.size := by rw [hs.size]; exact hin
            simp only [slotV_in (S0 := S0) hsz] at h2 h3
            have hgd' : a.tmps.getD t undef = a.tmps[t] := by simp [Array.getD, hsz]
            have hy : Region.wanted o (yielded ops a.tmps) = true ↔ a.tmps.getD t undef = .bool b := by
              unfold Region.wanted
              rw [hgd]
              simp only [beq_iff_eq, yielded, ho', Option.bind_some, ht, Array.getElem?_eq_getElem hsz]
              rw [hgd']
              cases a.tmps[t] <;> simp
            rw [hy, holds_append]
            constructor
            · intro hb
              refine ⟨?_, fun y hy => by simp at hy; subst hy; exact hb⟩
              refine Classical.byContradiction fun hn => ?_
              rw [h3 hn] at hb
              exact undef_ne_bool b hb
            · rintro ⟨_, hb⟩
              exact hb (t, b) (by simp)
          · cases hg
        · cases hg
      · cases hg
    · cases hg
theorem evalW_sound {o : Oper} {r : Nat} {ob : Prop} {c : Con} (h : evalW P st o.op = some (ob, r, c)) (hob : ob) (hs : SR w0 S0 G st a w) :
    ∃ w', (execOp a.eval o).run P w = .ok .skip w' ∧ Mv [r] G w G w' ∧ SR w0 S0 G (st.upd r c) a w' := by
  unfold evalW at h
  split at h
  · rename_i r' c' hu
    injection h with h; injection h with h1 h; injection h with h2 h3; subst h1 h2 h3
    exact evalU_sound hu hs
  · exact evalUD_sound h hob hs
theorem shut_nil : Shut [] G (fun _ => False) := fun _ h => h.elim
theorem tagOk_nil (x : AV) : tagOk [] x = true := by
  unfold tagOk
  split <;> rfl
theorem ldOk_nil (p : Path) (op : Op) : ldOk [] st p op = true := by
  unfold ldOk
  split
  · split
    · exact tagOk_nil _
    · rfl
  · split
    · exact tagOk_nil _
    · rfl
  · split
    · split
      · exact tagOk_nil _
      · rfl
    · rfl
  · rfl
theorem step1_run {o : Oper} {ob : Prop} {st' : St} {T : List Nat} (h : step1 P ops o st = some (ob, st', T)) (hob : ob) (hs : SR w0 S0 G st a w) :
    (Region.wanted o (yielded ops a.tmps) = true ∧ ((o.dst = none ∧ ∃ w' G', (execOp a.eval o).run P w = .ok .skip w' ∧ Mv T G w G' w' ∧ SR w0 S0 G' st' a w') ∨
      ∃ d v w' G', o.dst = some d ∧ (execOp a.eval o).run P w = .ok (.value v) w' ∧ Mv T G w G' w' ∧ SR w0 S0 G' st' (a.put (some d) v) w')) ∨
    (Region.wanted o (yielded ops a.tmps) = false ∧ ∃ d, o.dst = some d ∧ SR w0 S0 G st' (a.put (some d) undef) w) := by
  have nw : ∀ {b : Bool}, ¬ b = true → b = false := fun h => by simpa using h
  unfold step1 at h
  split at h
  · cases h
  · rename_i p hg
    have hw := guard_wanted hg hs
    split at h
    · rename_i hd
      split at h
      · split at h
        · rename_i ob' r c hu
          injection h with h; injection h with e1 h; injection h with e2 e3; subst e1 e2 e3
          obtain ⟨w', h1, hmv, h2⟩ := evalW_sound hu hob hs
          exact .inl ⟨hw.2 holds_nil, .inl ⟨hd, w', G, h1, hmv, h2⟩⟩
        · cases h
      · cases h
    · rename_i d hd
      split at h
      · rename_i hck
        simp only [Bool.and_eq_true, decide_eq_true_eq, Bool.not_eq_true'] at hck
        obtain ⟨⟨hdn, hp⟩, hcv⟩ := hck
        have hcv' : ∀ s d x, o.op = .convert s d x → ∃ u, P.underlying s = some u := by
          intro s d x e
          unfold convOk at hcv
          rw [e] at hcv
          exact Option.isSome_iff_exists.1 hcv
        split at h
        · rename_i ob' x hev
          injection h with h; injection h with e1 h; injection h with e2 e3; subst e1 e2 e3
          by_cases hh : Holds a p
          · obtain ⟨v, h1, h2⟩ := evalZD_sound hcv' hev (pathImp_out hs holds_nil hh hob) hs hh shut_nil (ldOk_nil p o.op)
            exact .inl ⟨hw.2 hh, .inr ⟨d, v, w, G, hd, h1 w (fun _ => Agree.refl _ w), mv_refl _ _ _, hs.put hdn hp (fun _ => h2) (fun hn => absurd hh hn)⟩⟩
          · exact .inr ⟨nw (fun e => hh (hw.1 e)), d, hd, hs.put hdn hp (fun h => absurd h hh) (fun _ => rfl)⟩
        · split at h
          · rename_i ob' c b hev
            split at h
            · rename_i hcl
              injection h with h; injection h with e1 h; injection h with e2 e3; subst e1 e2 e3
              by_cases hh : Holds a p
              · obtain ⟨v, w', G', h1, hmv, h2⟩ := evalN_sound hev (pathImp_out hs holds_nil hh hob) hs hh hdn hp hcl
                exact .inl ⟨hw.2 hh, .inr ⟨d, v, w', G', hd, h1, hmv, h2⟩⟩
              · exact .inr ⟨nw (fun e => hh (hw.1 e)), d, hd, hs.made_off hdn hp hh⟩
            · cases h
          · split at h
            · split at h
              · rename_i ob' k c hev
                injection h with h; injection h with e1 h; injection h with e2 e3; subst e1 e2 e3
                obtain ⟨v, w', G', h1, hmv, h2⟩ := evalA_sound hev hob hs hdn
                exact .inl ⟨hw.2 holds_nil, .inr ⟨d, v, w', G', hd, h1, hmv, h2⟩⟩
              · split at h
                · rename_i ob' c hev
                  injection h with h; injection h with e1 h; injection h with e2 e3; subst e1 e2 e3
                  obtain ⟨v, w', G', h1, hmv, h2⟩ := evalN2_sound hev hob hs hdn
                  exact .inl ⟨hw.2 holds_nil, .inr ⟨d, v, w', G', hd, h1, hmv, h2⟩⟩
                · split at h
                  · rename_i ob' r c z hev
                    injection h with h; injection h with e1 h; injection h with e2 e3; subst e1 e2 e3
                    obtain ⟨v, w', h1, hmv, h2⟩ := evalM_sound hev hob hs hdn
                    exact .inl ⟨hw.2 holds_nil, .inr ⟨d, v, w', G, hd, h1, hmv, h2⟩⟩
                  · cases h
            · cases h
      · cases h
theorem awl_step {o : Oper} {rest : List Oper} {ob : Prop} {st' : St} {T : List Nat} (h : step1 P ops o st = some (ob, st', T)) (hob : ob) (hr : AWL M P ops rest Q st') : AWL M P ops (o :: rest) Q st := by
  intro m w0 S0 G a w hs
  refine lwp_step fun K hK => ?_
  rcases step1_run h hob hs with ⟨hw, ⟨hd, w', G', h1, _, h2⟩ | ⟨d, v, w', G', hd, h1, _, h2⟩⟩ | ⟨hw, d, hd, h2⟩
  · rw [if_pos hw]
    refine upon_skip' h1 ?_
    rw [hd]
    exact hK _ _ (hr _ _ _ _ _ _ h2)
  · rw [if_pos hw]
    refine upon_value' h1 ?_
    rw [hd]
    exact hK _ _ (hr _ _ _ _ _ _ h2)
  · rw [if_neg (by rw [hw]; simp), hd]
    exact hK _ _ (hr _ _ _ _ _ _ h2)
theorem awl_run : ∀ (n : Nat) {l : List Oper} {st : St} {ob : Prop} {st' : St}, run P ops n l st = some (ob, st') → ob → AWL M P ops (l.drop n) Q st' → AWL M P ops l Q st
  | 0, l, st, ob, st', h, _, hr => by
    simp only [run] at h
    injection h with h; injection h with _ h; subst h
    simpa using hr
  | n + 1, [], st, ob, st', h, _, _ => by simp [run] at h
  | n + 1, o :: r, st, ob, st', h, hob, hr => by
    simp only [run] at h
    split at h
    · rename_i ob1 st1 T1 h1
      split at h
      · rename_i ob2 st2 h2
        injection h with h; injection h with e1 e2; subst e1 e2
        exact awl_step h1 hob.1 (awl_run n h2 hob.2 (by simpa using hr))
      · cases h
    · cases h
theorem awl_nil (h : Q .n st) : AWL M P ops [] Q st := fun _ _ _ G _ _ hs => ⟨G, st, hs, h⟩
/-! ### calls -/
def PRep (w : World) (S : Nat → Prop) (x : V1) (v : Value) : Prop := ∃ t y cs, x = toV1 t y ∧ Enc w S t y cs ∧ v = mkVal t cs
theorem PRep.v1 {w : World} {G : Ghost} {x : V1} {v : Value} (h : PRep w G.S x v) : V1Rep w G x v := by
  obtain ⟨t, y, cs, rfl, he, rfl⟩ := h
  exact toV1_rep he
theorem PRep.keep {w w' : World} {S S' : Nat → Prop} (H : ∀ b, S b → S' b ∧ w'.heap[b]? = w.heap[b]?) {x : V1} {v : Value} (h : PRep w S x v) : PRep w' S' x v := by
  obtain ⟨t, y, cs, e1, he, e2⟩ := h
  exact ⟨t, y, cs, e1, Enc.keep H he, e2⟩
def ARep (w : World) (S : Nat → Prop) (x : V1) (v : Value) : Prop :=
  PRep w S x v ∨ ((∃ f caps, x = .c (.fn f caps)) ∨ (∃ t y, x = .c (.ad t y)) ∨ x = .c .nils) ∧ V1Rep w ⟨S, fun _ => none, fun _ => undef⟩ x v
theorem ARep.v1 {w : World} {G : Ghost} {x : V1} {v : Value} (h : ARep w G.S x v) : V1Rep w G x v := by
  rcases h with h | ⟨⟨f, caps, rfl⟩ | ⟨t, y, rfl⟩ | rfl, h⟩
  · exact h.v1
  · exact V1Rep.keep (x := .c (.fn f caps)) (w := w) (G := ⟨G.S, fun _ => none, fun _ => undef⟩) (fun b hb => ⟨hb, rfl⟩) (fun r hr => by simp [V1.has, Cl.has] at hr) h
  · exact V1Rep.keep (x := .c (.ad t y)) (w := w) (G := ⟨G.S, fun _ => none, fun _ => undef⟩) (fun b hb => ⟨hb, rfl⟩) (fun r hr => by simp [V1.has, Cl.has] at hr) h
  · exact h
theorem ARep.keep {w w' : World} {S S' : Nat → Prop} (H : ∀ b, S b → S' b ∧ w'.heap[b]? = w.heap[b]?) {x : V1} {v : Value} (h : ARep w S x v) : ARep w' S' x v := by
  rcases h with h | ⟨h1, h⟩
  · exact .inl (h.keep H)
  · refine .inr ⟨h1, ?_⟩
    rcases h1 with ⟨f, caps, rfl⟩ | ⟨t, y, rfl⟩ | rfl
    · exact V1Rep.keep (x := .c (.fn f caps)) (w := w) (G := ⟨S, fun _ => none, fun _ => undef⟩) H (fun r hr => by simp [V1.has, Cl.has] at hr) h
    · exact V1Rep.keep (x := .c (.ad t y)) (w := w) (G := ⟨S, fun _ => none, fun _ => undef⟩) H (fun r hr => by simp [V1.has, Cl.has] at hr) h
    · exact h
theorem ARep.ad {w : World} {S : Nat → Prop} {d : Dat} {v : Value} (h : AdRep w S d.1 d.2 v) : ARep w S (.c (.ad d.1 d.2)) v := .inr ⟨.inr (.inl ⟨_, _, rfl⟩), h⟩
def resAV : List V1 → AV
  | [x] => .v x
  | xs => .tup xs
def retVal : List Value → Value
  | [v] => v
  | vs => .tuple vs.toArray
theorem ret_rep {w : World} {G : Ghost} : ∀ {xs : List V1} {vs : List Value}, All2 (PRep w G.S) xs vs → AVRep w G (resAV xs) (retVal vs)
  | [], [], _ => ⟨[], rfl, trivial⟩
  | [x], [v], h => h.1.v1
  | x :: y :: xs, v :: u :: vs, h => ⟨v :: u :: vs, rfl, All2.imp (fun _ _ _ hh => hh.v1) h⟩
  | [], _ :: _, h => h.elim
  | _ :: _, [], h => h.elim
  | [_], _ :: _ :: _, h => h.2.elim
  | _ :: _ :: _, [_], h => h.2.elim
def ACalls (P : Program) (f : FuncId) (args : List V1) (K : List V1 → Prop) : Prop :=
  ∀ (w : World) (S : Nat → Prop) (vs : List Value), (∀ b, S b → b < w.heap.size) → All2 (ARep w S) args vs →
    Calls P f vs.toArray w fun e w' => ∃ (us : List Value) (res : List V1) (S' : Nat → Prop), e = .returned (retVal us) ∧ Bel w.heap.size w w' ∧
      (∀ b, S' b → b < w'.heap.size ∧ (S b ∨ w.heap.size ≤ b)) ∧ All2 (PRep w' S') res us ∧ K res
def lend (st : St) (p : Path) : Cl → Option Cl
  | .own r => match st.con p r with
    | some (.arr _ t l) => some (.p (.sl t) l)
    | some (.dict k v l) => some (.p (.mp k v) l)
    | _ => none
  | .vw r lo n sz => match st.con p r with
    | some (.arr _ t l) => if sz == t.size then some (.p (.sl t) ((l.drop lo).take n)) else none
    | _ => none
  | .ptr _ _ => none
  | .el _ _ _ => none
  | x => some x
def lends (st : St) (p : Path) : List Cl → Option (List Cl)
  | [] => some []
  | x :: r => match lend st p x, lends st p r with
    | some y, some l => some (y :: l)
    | _, _ => none
inductive AT where
  | d (t : Ty)
  | fn
  | ad (t : Ty)
  | nil
def datumOf (st : St) (p : Path) (own : Bool) (t : Ty) (x : AV) : Option V1 :=
  match x with
  | .v y => match y.cls with
    | some cs => match (if own then lends st p cs else some cs) with
      | some cs => match coll t cs with
        | some (z, []) => if t.isPr == y.isAgg then some (toV1 t z) else none
        | _ => none
      | none => none
    | none => none
  | _ => none
def adOf (st : St) (p : Path) (own : Bool) (t : Ty) (x : AV) : Option V1 :=
  match x with
  | .v (.c (.ad u y)) => match Ty.same u t with
    | some h => some (.c (.ad t (h.down ▸ y)))
    | none => none
  | .v (.c (.ptr r off)) => if own && off == 0 then (match st.con p r with
    | some (.box cs) => match lends st p cs with
      | some cs => match coll t cs with
        | some (z, []) => some (.c (.ad t z))
        | _ => none
      | none => none
    | some (.vec n u l) => match t with
      | .ar m u' => match Ty.same u u' with
        | some h => if n == m + 1 then some (.c (.ad (.ar m u') (h.down ▸ l))) else none
        | none => none
      | _ => none
    | _ => none) else none
  | _ => none
def argOf (st : St) (p : Path) (own : Bool) (t : AT) (x : Operand) : Option V1 :=
  match st.val p x with
  | some y => match t with
    | .d t => datumOf st p own t y
    | .fn => match y with
      | .v (.c (.fn f caps)) => some (.c (.fn f caps))
      | _ => none
    | .ad t => adOf st p own t y
    | .nil => match y with
      | .v (.c .nils) => some (.c .nils)
      | _ => none
  | none => none
def argsOf (st : St) (p : Path) (own : Bool) : List AT → List Operand → Option (List V1)
  | [], [] => some []
  | t :: ts, x :: xs => match argOf st p own t x, argsOf st p own ts xs with
    | some y, some l => some (y :: l)
    | _, _ => none
  | _, _ => none
def scalar : V1 → Bool
  | .c (.p (.int _) _) => true
  | .c (.p .bool _) => true
  | _ => false
def Ghost.all (G : Ghost) : Nat → Prop := fun b => G.S b ∨ ∃ r, G.col b = some r
theorem lend_rep {p : Path} {x y : Cl} {v : Value} (h : lend st p x = some y) (hs : SR w0 S0 G st a w) (hp : Holds a p) (hx : ClRep w G x v) : ClRep w { G with S := G.all } y v := by
  have hS : ∀ b, G.S b → G.all b ∧ w.heap[b]? = w.heap[b]? := fun b hb => ⟨.inl hb, rfl⟩
  unfold lend at h
  split at h
  · rename_i r
    split at h
    · rename_i e t l hcon
      injection h with h; subst h
      obtain ⟨xs, hxl, ho, hm, hg⟩ := hs.con_ hp hcon
      obtain ⟨rfl, _⟩ := hx
      show Enc w G.all (.sl t) l [G.rho r]
      rcases ho.2 with ⟨e0, hn⟩ | ⟨g, cap, cur, e0, hb0, hb, hnc, hcm, hcs, htk⟩
      · have : l = [] := List.eq_nil_of_length_eq_zero hn
        subst this
        exact ⟨none, 0, by rw [e0]; rfl, Nat.le_refl _, Nat.zero_le _, .inl rfl⟩
      · refine ⟨some ⟨g, 0, none⟩, cap, by rw [e0], hnc, hcm, .inr ⟨g, 0, cur, e, (0, 0), xs, rfl, .inr ⟨r, hg g (by rw [e0]; rfl)⟩, hb, EncL.imp (fun _ _ hh => Enc.keep hS hh) hxl, fun j u hj => ?_⟩⟩
        rw [← htk, List.getElem?_take] at hj
        split at hj
        · simpa using hj
        · cases hj
    · rename_i k u l hcon
      injection h with h; subst h
      obtain ⟨g, es, ck, hr, hg, hb, h2, _⟩ := hs.con_ hp hcon
      obtain ⟨rfl, _⟩ := hx
      show Enc w G.all (.mp k u) l [G.rho r]
      exact .inr ⟨g, es, ck, by rw [hr], .inr ⟨r, hg⟩, hb, All2.imp (fun _ _ _ ⟨⟨c1, a1, a2⟩, c2, b1, b2⟩ => ⟨⟨c1, Enc.keep hS a1, a2⟩, c2, Enc.keep hS b1, b2⟩) h2⟩
    · cases h
  · rename_i r lo n sz
    split at h
    · rename_i e t l hcon
      split at h
      · rename_i hsz
        have hsz' : sz = t.size := by simpa using hsz
        subst hsz'
        injection h with h; subst h
        obtain ⟨xs, hxl, ho, hm, hg⟩ := hs.con_ hp hcon
        obtain ⟨ad, len, cap, c, a', hv, hl, hn, hcap, rfl, ha', _⟩ := hx
        rw [hv] at ho hg
        have hlen : len = l.length := by obtain ⟨ad2, c2, e2, _⟩ := owns_form ho; injection e2
        subst hlen
        have hll : ((l.drop lo).take n).length = n := by simp; omega
        show Enc w G.all (.sl t) ((l.drop lo).take n) [.slice a' n c]
        refine ⟨a', c, by rw [hll], by rw [hll]; exact hn, ?_, ?_⟩
        · obtain ⟨ad2, c2, e2, h3, h4, _⟩ := owns_form ho
          injection e2 with _ _ e2
          subst e2
          omega
        · rcases ho.2 with ⟨e0, h0⟩ | ⟨g, cap', cur, e0, hb0, hb, hnc, hcm, hcs, htk⟩
          · left; exact List.eq_nil_of_length_eq_zero (by rw [hll]; omega)
          · injection e0 with e2 e3 e4
            subst e2 e4
            by_cases hn0 : n = 0
            · left; exact List.eq_nil_of_length_eq_zero (by rw [hll]; omega)
            · right
              rcases ha' with ⟨h0, _⟩ | rfl
              · omega
              · refine ⟨g, lo * t.size, cur, e, (0, 0), (xs.drop (lo * t.size)).take (n * t.size), by simp [addr_add], .inr ⟨r, hg g rfl⟩, hb, ?_, fun j u hj => ?_⟩
                · exact EncL.imp (fun _ _ hh => Enc.keep hS hh) (EncL.take (fun _ _ hh => Enc.length hh) n (EncL.drop (fun _ _ hh => Enc.length hh) lo hxl))
                · rw [List.getElem?_take] at hj
                  split at hj
                  · rw [List.getElem?_drop, ← htk, List.getElem?_take] at hj
                    split at hj
                    · simpa using hj
                    · cases hj
                  · cases hj
      · cases h
    · cases h
  · cases h
  · cases h
  · rename_i hn1 hn2 hn3 hn4
    injection h with h; subst h
    exact ClRep.keep (w := w) (G := G) hS (fun r hr => rfl) hx
theorem lends_rep {p : Path} (hs : SR w0 S0 G st a w) (hp : Holds a p) : ∀ {cs ds : List Cl} {vs : List Value}, lends st p cs = some ds → All2 (ClRep w G) cs vs → All2 (ClRep w { G with S := G.all }) ds vs
  | [], ds, vs, h, h2 => by
    simp only [lends] at h
    injection h with h; subst h
    cases vs with
    | nil => trivial
    | cons => exact h2.elim
  | x :: r, ds, vs, h, h2 => by
    simp only [lends] at h
    split at h
    · rename_i y l h3 h4
      injection h with h; subst h
      cases vs with
      | nil => exact h2.elim
      | cons v vs => exact ⟨lend_rep h3 hs hp h2.1, lends_rep hs hp h4 h2.2⟩
    · cases h
theorem datumOf_rep {p : Path} {own : Bool} (hs : SR w0 S0 G st a w) (hp : Holds a p) {t : Ty} {x : AV} {y : V1} {v : Value} (h : datumOf st p own t x = some y) (hx : AVRep w G x v) : PRep w (if own then G.all else G.S) y v := by
  unfold datumOf at h
  split at h
  · rename_i x'
    have hyr : V1Rep w G x' v := hx
    split at h
    · rename_i cs hcs
      have hcells := hyr.cells hcs
      split at h
      · rename_i ds hds
        split at h
        · rename_i z hz
          split at h
          · rename_i hag
            injection h with h; subst h
            have hds2 : All2 (ClRep w { G with S := if own then G.all else G.S }) ds v.cells.toList := by
              cases own with
              | true => exact lends_rep hs hp hds hcells
              | false =>
                simp only [Bool.false_eq_true, if_false] at hds ⊢
                injection hds with hds; subst hds
                exact hcells
            obtain ⟨c1, c2, e1, he, h2⟩ := coll_rep hz hds2
            have : c2 = [] := by cases c2 with | nil => rfl | cons => exact h2.elim
            subst this
            rw [List.append_nil] at e1
            refine ⟨t, z, v.cells.toList, rfl, by rw [e1]; exact he, ?_⟩
            exact mkVal_cells hyr hcs (by simpa using hag)
          · cases h
        · cases h
      · cases h
    · cases h
  · cases h
theorem adOf_rep {p : Path} {own : Bool} (hs : SR w0 S0 G st a w) (hp : Holds a p) {t : Ty} {x : AV} {y : V1} {v : Value} (h : adOf st p own t x = some y) (hx : AVRep w G x v) : ARep w (if own then G.all else G.S) y v := by
  have hS : ∀ b, G.S b → (if own then G.all else G.S) b ∧ w.heap[b]? = w.heap[b]? := fun b hb => ⟨by cases own; exact hb; exact .inl hb, rfl⟩
  have hA : ∀ b, G.S b → G.all b ∧ w.heap[b]? = w.heap[b]? := fun b hb => ⟨.inl hb, rfl⟩
  unfold adOf at h
  split at h
  · rename_i u z
    split at h
    · rename_i hh _
      have := hh.down
      subst this
      injection h with h; subst h
      exact ARep.ad (d := ⟨_, _⟩) (AdRep.keep hS hx)
    · cases h
  · rename_i r off
    split at h
    · rename_i hck
      simp only [Bool.and_eq_true, beq_iff_eq] at hck
      obtain ⟨rfl, rfl⟩ := hck
      obtain ⟨b, hr, rfl⟩ := hx
      split at h
      · rename_i cs hcon
        obtain ⟨b', vs, e, hr', hcol, hb, h2⟩ := hs.con_ hp hcon
        rw [hr] at hr'
        injection hr' with hr'; injection hr' with hr'; injection hr' with hr' _; subst hr'
        split at h
        · rename_i ds hds
          split at h
          · rename_i z hz
            injection h with h; subst h
            obtain ⟨c1, c2, e1, he, h3⟩ := coll_rep hz (lends_rep hs hp hds h2)
            have : c2 = [] := by cases c2 with | nil => rfl | cons => exact h3.elim
            subst this
            rw [List.append_nil] at e1
            refine ARep.ad (d := ⟨t, z⟩) ⟨b, 0, vs, e, (0, 0), c1, rfl, .inr ⟨r, hcol⟩, hb, he, fun j u hj => ?_⟩
            rw [← e1] at hj
            simpa using hj
          · cases h
        · cases h
      · rename_i n u l hcon
        obtain ⟨b', vs, e, hr', hcol, hb, h2, hn⟩ := hs.con_ hp hcon
        rw [hr] at hr'
        injection hr' with hr'; injection hr' with hr'; injection hr' with hr' _; subst hr'
        split at h
        · rename_i m u' 
          split at h
          · rename_i hh _
            have := hh.down
            subst this
            split at h
            · rename_i hnm
              injection h with h; subst h
              have hnm' : n = m + 1 := by simpa using hnm
              refine ARep.ad (d := ⟨.ar m u, l⟩) ⟨b, 0, vs, e, (0, 0), vs.toList, rfl, .inr ⟨r, hcol⟩, hb, ⟨by rw [hn, hnm'], EncL.imp (fun _ _ hh => Enc.keep hA hh) h2⟩, fun j u hj => ?_⟩
              simpa using hj
            · cases h
          · cases h
        · cases h
      · cases h
    · cases h
  · cases h
theorem argOf_rep {p : Path} {own : Bool} (hs : SR w0 S0 G st a w) (hp : Holds a p) {t : AT} {x : Operand} {y : V1} (h : argOf st p own t x = some y) : ARep w (if own then G.all else G.S) y (a.eval x) := by
  unfold argOf at h
  split at h
  · rename_i z hz
    have hv := hs.val_ hp hz
    split at h
    · exact .inl (datumOf_rep hs hp h hv)
    · split at h
      · rename_i f caps
        injection h with h; subst h
        refine .inr ⟨.inl ⟨_, _, rfl⟩, ?_⟩
        exact V1Rep.keep (x := .c (.fn f caps)) (w := w) (G := G) (fun b hb => ⟨by cases own; exact hb; exact .inl hb, rfl⟩) (fun r hr => by simp [V1.has, Cl.has] at hr) hv
      · cases h
    · exact adOf_rep hs hp h hv
    · split at h
      · injection h with h; subst h
        exact .inr ⟨.inr (.inr rfl), hv⟩
      · cases h
  · cases h
theorem argsOf_rep {p : Path} {own : Bool} (hs : SR w0 S0 G st a w) (hp : Holds a p) : ∀ {ts : List AT} {xs : List Operand} {l : List V1}, argsOf st p own ts xs = some l →
    All2 (ARep w (if own then G.all else G.S)) l (xs.map a.eval)
  | [], [], l, h => by simp only [argsOf] at h; injection h with h; subst h; trivial
  | [], _ :: _, _, h => by simp [argsOf] at h
  | _ :: _, [], _, h => by simp [argsOf] at h
  | t :: ts, x :: xs, l, h => by
    simp only [argsOf] at h
    split at h
    · rename_i y l' h1 h2
      injection h with h; subst h
      exact ⟨argOf_rep hs hp h1, argsOf_rep hs hp h2⟩
    · cases h
end
end Dec
