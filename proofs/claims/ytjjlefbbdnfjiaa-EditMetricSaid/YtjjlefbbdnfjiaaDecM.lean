/-
  A state told anew; loops; the body of a function.
-/
import Derived.Test.YtjjlefbbdnfjiaaDecL
set_option linter.unusedSimpArgs false
set_option linter.unusedVariables false
namespace Dec
open Go Go.RowKit

def Cl.ren1 (r r' : Nat) (x : Cl) : Cl := if x.has r' then .any else x.ren r r'

def Dir.go (st : St) : Dir → Option St
  | .ren r r' => some { st with sl := st.sl.map (fun e => (e.1, e.2.1, e.2.2.map (Cl.ren1 r r'))), hp := (st.hp.filter (fun e => !(e.1 == r'))).map (fun e => (if e.1 == r then r' else e.1, e.2.1, e.2.2.map (Cl.ren1 r r'))) }
  | .cut i _ => match st.get [] i with
    | some (.v (.c (.vw q 0 n sz))) => match st.con [] q with
      | some (.arr e t l) => if decide (i < st.n) && sz == t.size then some (((st.purge q).own q [] (.arr e t (l.take n))).put i [] (.v (.c (.own q)))) else none
      | _ => none
    | _ => none
  | d => Dir.app st d

def conv : List Dir → St → Option St
  | [], st => some st
  | d :: r, st => match d.go st with
    | some s => conv r s
    | none => none

section
variable {P : Program} {w0 w : World} {S0 : Nat → Prop} {G : Ghost} {st : St} {a : Act} {ops : Array Oper} {Q : XE → St → Prop}

theorem SR.ren (h : SR w0 S0 G st a w) {r r' : Nat} {st' : St} (ha : Dir.go st (.ren r r') = some st') : ∃ G', SR w0 S0 G' st' a w := by
  simp only [Dir.go] at ha
  injection ha with ha
  let G' : Ghost := { S := G.S, col := fun b => if G.col b = some r then some r' else G.col b, rho := fun q => if q = r' then G.rho r else G.rho q }
  have hf : ∀ x v, ClRep w G x v → ClRep w G' (Cl.ren1 r r' x) v := by
    intro x v hx
    unfold Cl.ren1
    cases hh : x.has r' with
    | true => simp only [if_true]; trivial
    | false =>
      simp only [Bool.false_eq_true, if_false]
      refine Cl.ren_rep (G := G) (G' := G') (fun _ hb => hb) (fun q hq => ?_) hh hx
      show (if (if q == r then r' else q) = r' then G.rho r else G.rho _) = G.rho q
      by_cases hqr : q = r
      · subst hqr; simp
      · have : (q == r) = false := by simpa using hqr
        simp only [this, Bool.false_eq_true, if_false]
        rw [if_neg hq]
  refine ⟨G', h.sub_map (Cl.ren1 r r') (fun _ hb => hb) hf h.sub ?_ (by rw [← ha]) (fun x hx => ?_) (fun x hx hh => ?_)⟩
  · intro b q hq
    have hq' : (if G.col b = some r then some r' else G.col b) = some q := hq
    split at hq'
    · rename_i e; exact h.colr b r e
    · exact h.colr b q hq'
  · subst ha
    simp only [List.mem_map] at hx
    obtain ⟨x', hx', rfl⟩ := hx
    exact ⟨x'.2.2, hx', rfl⟩
  · subst ha
    simp only [List.mem_map, List.mem_filter, Bool.not_eq_true', beq_eq_false_iff_ne, ne_eq] at hx
    obtain ⟨x', ⟨hx', hne⟩, rfl⟩ := hx
    have hc := h.hp x' hx' hh
    obtain ⟨i, q, c⟩ := x'
    simp only at hne hc hh ⊢
    have hrho : G'.rho (if i == r then r' else i) = G.rho i := by
      show (if (if i == r then r' else i) = r' then G.rho r else G.rho _) = G.rho i
      by_cases hqr : i = r
      · subst hqr; simp
      · have : (i == r) = false := by simpa using hqr
        simp only [this, Bool.false_eq_true, if_false]
        rw [if_neg hne]
    have hcol : ∀ b, G.col b = some i → G'.col b = some (if i == r then r' else i) := by
      intro b hb
      show (if G.col b = some r then some r' else G.col b) = _
      rw [hb]
      by_cases hqr : i = r
      · subst hqr; simp
      · have : (i == r) = false := by simpa using hqr
        rw [if_neg (by simpa using hqr)]
        simp [this]
    cases c with
    | box cs => exact box_map hc hf hrho hcol
    | arr e' t' l' => exact arr_map hc (fun _ hb => hb) hrho hcol

/-- a tag told anew: where it lies -/
def Ghost.at_ (G : Ghost) (r : Nat) (v : Value) : Ghost := { G with rho := fun q => if q = r then v else G.rho q }

theorem SR.at_ (h : SR w0 S0 G st a w) (r : Nat) (v : Value) : SR w0 S0 (G.at_ r v) (st.purge r) a w := by
  refine (h.purge r).move (fun q => q = r) (fun b hb => ⟨hb, rfl⟩) (fun q hq => ?_) (fun b q _ hb => ⟨hb, rfl⟩) h.below h.sub h.colr rfl (fun e he => ⟨he, purge_sl he⟩) (fun e he => ⟨he, purge_hp he⟩)
  simp [Ghost.at_, hq]

theorem SR.own_at (h : SR w0 S0 G st a w) {i r : Nat} {e : TypeId} {t : Ty} {l : List t.T} {xs : List Value} (hi : i < st.n) (hx : EncL (Enc w G.S t) l xs) (ho : w.ownsRow w0.heap.size e t.size (a.tmps.getD i undef) l.length xs) (hm : l.length ≤ maxLen)
    (hg : ∀ g, (a.tmps.getD i undef).ownBlock = some g → G.col g = some r) :
    SR w0 S0 (G.at_ r (a.tmps.getD i undef)) (((st.purge r).own r [] (.arr e t l)).put i [] (.v (.c (.own r)))) a w := by
  have h1 := h.at_ r (a.tmps.getD i undef)
  have h2 := h1.own (r := r) (p := []) (c := .arr e t l) fun _ => ⟨xs, hx, by simpa [Ghost.at_] using ho, hm, by simpa [Ghost.at_] using hg⟩
  have h3 := h2.put (i := i) (p := []) (x := .v (.c (.own r))) (v := a.tmps.getD i undef) hi rfl (fun _ => ?_) (fun hn => absurd holds_nil hn)
  · rw [put_same (by rw [h.size]; exact hi)] at h3
    exact h3
  · refine ⟨by simp [Ghost.at_], ?_⟩
    obtain ⟨ad, c, e1, _⟩ := owns_form ho
    exact ⟨ad, _, c, e1⟩

theorem SR.dir (h : SR w0 S0 G st a w) {d : Dir} {st' : St} (hd : d.go st = some st') : ∃ G', SR w0 S0 G' st' a w := by
  cases d with
  | ren r r' => exact h.ren hd
  | freeze r => exact h.freeze hd
  | prune sl hp =>
    simp only [Dir.go, Dir.app] at hd
    injection hd with hd
    subst hd
    exact ⟨G, h.below, h.sub, h.colr, h.df, h.size, fun e he => h.sl e (pick_mem he), fun e he => h.hp e (pick_mem he)⟩
  | nilOwn i r e t =>
    simp only [Dir.go, Dir.app] at hd
    split at hd
    · rename_i hg
      split at hd
      · rename_i hi
        injection hd with hd
        subst hd
        have hv : a.tmps.getD i undef = .slice none 0 0 := h.get_ holds_nil hg
        refine ⟨_, h.own_at (by simpa using hi) (xs := []) rfl ?_ (Nat.zero_le _) (fun g hg => ?_)⟩
        · rw [hv]; exact World.ownsRow_nil _ _ _ _
        · rw [hv] at hg; simp [Value.ownBlock] at hg
      · cases hd
    · cases hd
  | nilP i t =>
    simp only [Dir.go, Dir.app] at hd
    split at hd
    · rename_i hg
      split at hd
      · rename_i hi
        injection hd with hd
        subst hd
        have hv : a.tmps.getD i undef = .slice none 0 0 := h.get_ holds_nil hg
        have h3 := h.put (i := i) (p := []) (x := .v (.c (.p (.sl t) []))) (v := a.tmps.getD i undef) (by simpa using hi) rfl (fun _ => by rw [hv]; exact ⟨none, 0, rfl, Nat.le_refl _, Nat.zero_le _, .inl rfl⟩) (fun hn => absurd holds_nil hn)
        rw [put_same (by rw [h.size]; simpa using hi)] at h3
        exact ⟨_, h3⟩
      · cases hd
    · cases hd
  | cut i r =>
    simp only [Dir.go] at hd
    split at hd
    · rename_i q n sz hg
      split at hd
      · rename_i e t l hcon
        split at hd
        · rename_i hck
          simp only [Bool.and_eq_true, decide_eq_true_eq, beq_iff_eq] at hck
          injection hd with hd
          subst hd
          have hx := h.get_ holds_nil hg
          obtain ⟨rx, hm⟩ : (∃ xs, EncL (Enc w G.S t) (l.take n) xs ∧ w.ownsRow w0.heap.size e t.size (a.tmps.getD i undef) (l.take n).length xs ∧ ∀ g, (a.tmps.getD i undef).ownBlock = some g → G.col g = some q) ∧ l.length ≤ maxLen := by
            refine ⟨?_, ?_⟩
            · have hb : baseOf st e t (.v (.c (.vw q 0 n sz))) = some (some q, l.take n) := by
                simp only [baseOf, hcon]
                have hsame : ∀ u : Ty, ∃ pf, Ty.same u u = some pf := by
                  intro u
                  induction u with
                  | int k => exact ⟨⟨rfl⟩, by simp [Ty.same]⟩
                  | bool => exact ⟨⟨rfl⟩, rfl⟩
                  | sl u ih => obtain ⟨pf, hp⟩ := ih; exact ⟨⟨rfl⟩, by simp [Ty.same, hp]⟩
                  | pr u v ih1 ih2 => obtain ⟨p1, h1⟩ := ih1; obtain ⟨p2, h2⟩ := ih2; exact ⟨⟨rfl⟩, by simp [Ty.same, h1, h2]⟩
                obtain ⟨pf, hp⟩ := hsame t
                rw [hp]
                simp [hck.2]
              obtain ⟨xs, h1, h2, h3⟩ := base_rep hb h hx
              exact ⟨xs, h1, h2, fun g hg => by obtain ⟨r', e1, e2⟩ := h3 g hg; injection e1 with e1; subst e1; exact e2⟩
            · exact (h.con_ holds_nil hcon).choose_spec.2.2.1
          obtain ⟨xs, h1, h2, h3⟩ := rx
          exact ⟨_, h.own_at hck.1 h1 h2 (by simp; omega) h3⟩
        · cases hd
      · cases hd
    · cases hd

theorem SR.conv_ (h : SR w0 S0 G st a w) : ∀ {ds : List Dir} {st' : St}, conv ds st = some st' → ∃ G', SR w0 S0 G' st' a w := by
  intro ds
  induction ds generalizing st G with
  | nil => intro st' hc; simp only [conv] at hc; injection hc with hc; subst hc; exact ⟨G, h⟩
  | cons d r ih =>
    intro st' hc
    simp only [conv] at hc
    split at hc
    · rename_i s hs
      obtain ⟨G', h'⟩ := h.dir hs
      exact ih h' hc
    · cases hc

theorem awl_conv {l : List Oper} {st' : St} (ds : List Dir) (hc : conv ds st = some st') (h : AWL P ops l Q st') : AWL P ops l Q st := by
  intro w0 S0 G a w hs
  obtain ⟨G', hs'⟩ := hs.conv_ hc
  exact h _ _ _ _ _ hs'

theorem aw_conv {c : Code} {st' : St} (ds : List Dir) (hc : conv ds st = some st') (h : AW P c Q st') : AW P c Q st := by
  intro w0 S0 G a w hs
  obtain ⟨G', hs'⟩ := hs.conv_ hc
  exact h _ _ _ _ _ hs'

/-! ### a loop -/

theorem aw_loop {σ : Type} (J : σ → St) (B : σ → (σ → Prop) → Prop) {c : Code} {s0 : σ} (hB : ∀ s X, B s X → AW P c (thenQ (fun st' => ∃ s', st' = J s' ∧ X s') Q) (J s)) (h : Loop B s0) : AW P (.loop c) Q (J s0) := by
  intro w0 S0 G a w hs b k cs
  have key : ∀ G a w, SR w0 S0 G (J s0) a w → ∃ e a' w', QC w0 S0 Q e a' w' ∧ Arrives P (lone (b.at a (.code c :: .inLoop c :: k)) cs w) b k cs e a' w' := by
    refine h (fun s => ∀ G a w, SR w0 S0 G (J s) a w → ∃ e a' w', QC w0 S0 Q e a' w' ∧ Arrives P (lone (b.at a (.code c :: .inLoop c :: k)) cs w) b k cs e a' w') ?_
    intro s hX G a w hs
    obtain ⟨e, a₁, w₁, hq, harr⟩ := hB s _ hX w0 S0 G a w hs b (.inLoop c :: k) cs
    cases e with
    | normal =>
      obtain ⟨G1, st1, hs1, s', rfl, hX'⟩ := hq
      obtain ⟨e₂, a₂, w₂, hq₂, harr₂⟩ := hX' G1 a₁ w₁ hs1
      exact ⟨e₂, a₂, w₂, hq₂, .of_steps (Steps.trans harr (.one step_inLoop)) harr₂⟩
    | exit id => obtain ⟨G1, st1, hs1, hq1⟩ := hq; exact ⟨_, a₁, w₁, (show QC w0 S0 Q (.exit id) a₁ w₁ from ⟨G1, st1, hs1, hq1⟩), .pass (x := .inLoop c) rfl (fun _ _ => .inl (by simp)) harr⟩
    | ret => obtain ⟨G1, st1, hs1, hq1⟩ := hq; exact ⟨_, a₁, w₁, (show QC w0 S0 Q .ret a₁ w₁ from ⟨G1, st1, hs1, hq1⟩), .pass (x := .inLoop c) rfl (fun _ _ => .inl (by simp)) harr⟩
    | goto l => exact hq.elim
    | panic ch => exact hq.elim
    | outgrown => exact hq.elim
  obtain ⟨e, a', w', hq, harr⟩ := key G a w hs
  exact ⟨e, a', w', hq, .of_steps (.one step_loop) harr⟩

/-! ### the body of a function -/

/-- the slots at the start -/
def argSlots : Nat → List V1 → List (Nat × Path × AV)
  | _, [] => []
  | i, x :: r => (i, [], .v x) :: argSlots (i + 1) r

def retQ (tys : List Ty) (rs : List Nat) (K : List V1 → Prop) : XE → St → Prop
  | .x _, _ => False
  | _, st => ∃ res, argsOf st [] false tys (rs.map .tmp) = some res ∧ K res

theorem argSlots_mem {w : World} {G : Ghost} : ∀ {xs : List V1} {vs : List Value} {i : Nat} {e : Nat × Path × AV}, All2 (PRep w G.S) xs vs → e ∈ argSlots i xs → e.2.1 = [] ∧ i ≤ e.1 ∧ ∃ v, vs[e.1 - i]? = some v ∧ AVRep w G e.2.2 v
  | [], _, _, _, _, he => by simp [argSlots] at he
  | x :: xs, v :: vs, i, e, h, he => by
    simp only [argSlots, List.mem_cons] at he
    rcases he with rfl | he
    · exact ⟨rfl, Nat.le_refl _, v, by simp, h.1.v1⟩
    · obtain ⟨h1, h2, u, h3, h4⟩ := argSlots_mem h.2 he
      refine ⟨h1, by omega, u, ?_, h4⟩
      rw [show e.1 - i = (e.1 - (i + 1)) + 1 by omega]
      simpa using h3
  | _ :: _, [], _, _, h, _ => h.elim

theorem run_results {fn : Func} {rs : List Nat} (hr : fn.results = (rs.map ResultVar.tmp).toArray) (tmps : Array Value) (w : World) : (results fn tmps).run P w = .ok (retVal (rs.map fun t => tmps.getD t undef)) w := by
  unfold results
  rw [hr, List.mapM_toArray, List.mapM_map]
  change Sem.run P (do let vs ← List.toArray <$> List.mapM (fun t : Nat => (pure (tmps.getD t undef) : Sem Value)) rs; pure (if h : vs.size = 1 then vs[0] else .tuple vs)) w = _
  rw [List.mapM_pure]
  simp only [Sem.run_bind, Sem.run_map, Sem.run_pure, Result.andThen_ok]
  congr 1
  cases rs with
  | nil => rfl
  | cons t r =>
    cases r with
    | nil => rfl
    | cons u r => simp [retVal]

/-- **A FUNCTION's CONTRACT OUT OF ITS BODY's DEMAND** -/
theorem acalls_of_aw {f : FuncId} {fn : Func} {c : Code} {args : List V1} {K : List V1 → Prop} (tys : List Ty) (rs : List Nat) (hf : P.funcs[f]? = some fn) (hb : fn.body = some c) (hr : fn.results = (rs.map ResultVar.tmp).toArray)
    (hn : decide (args.length ≤ fn.ntmps) = true) (h : AW P c (retQ tys rs K) ⟨fn.ntmps, argSlots 0 args, []⟩) : ACalls P f args K := by
  intro w S vs hS hargs
  have hlen := hargs.length
  simp only [decide_eq_true_eq] at hn
  refine calls_of_wp hf hb ?_
  let G : Ghost := { S := S, col := fun _ => none, rho := fun _ => undef }
  have hsz : (vs.toArray ++ Array.replicate (fn.ntmps - vs.toArray.size) undef).size = fn.ntmps := by simp; omega
  have hs : SR w S G ⟨fn.ntmps, argSlots 0 args, []⟩ { tmps := vs.toArray ++ Array.replicate (fn.ntmps - vs.toArray.size) undef, defers := [] } w := by
    refine ⟨Below.refl _ _, fun b hb => ⟨hS b hb, .inl hb⟩, fun b r hb => by simp [G] at hb, rfl, hsz, fun e he => ?_, fun e he => by simp at he⟩
    obtain ⟨h1, h2, v, h3, h4⟩ := argSlots_mem (G := G) hargs he
    have hlt : e.1 < vs.length := by have := (List.getElem?_eq_some_iff.1 h3).1; omega
    have hv : ({ tmps := vs.toArray ++ Array.replicate (fn.ntmps - vs.toArray.size) undef, defers := [] } : Act).tmps.getD e.1 undef = v := by
      simp only [Array.getD_eq_getD_getElem?]
      rw [Array.getElem?_append_left (by simpa using hlt)]
      simp at h3 ⊢
      rw [h3]
      rfl
    refine ⟨by show e.1 < fn.ntmps; omega, fun _ => by rw [hv]; exact h4, fun hn => absurd (by rw [h1]; exact holds_nil) hn⟩
  have fin : ∀ (st : St) (G1 : Ghost) (a : Act) (w' : World), SR w S G1 st a w' → (∃ res, argsOf st [] false tys (rs.map .tmp) = some res ∧ K res) →
      a.defers = [] ∧ ∃ v, (results fn a.tmps).run P w' = .ok v w' ∧ ∃ (us : List Value) (res : List V1) (S' : Nat → Prop), Ending.returned v = .returned (retVal us) ∧ Below w.heap.size w w' ∧
        (∀ b, S' b → b < w'.heap.size ∧ (S b ∨ w.heap.size ≤ b)) ∧ All2 (PRep w' S') res us ∧ K res := by
    rintro st G1 a w' hs1 ⟨res, hres, hK⟩
    refine ⟨hs1.df, _, run_results hr a.tmps w', rs.map (fun t => a.tmps.getD t undef), res, G1.S, rfl, hs1.below, hs1.sub, ?_, hK⟩
    have := argsOf_rep hs1 holds_nil hres
    simpa [List.map_map, Function.comp_def, Act.eval] using this
  refine Go.wp_mono (h w S G _ w hs) ?_
  intro e a w' hq
  cases e with
  | normal => obtain ⟨G1, st, hs1, hq1⟩ := hq; exact fin st G1 a w' hs1 hq1
  | ret => obtain ⟨G1, st, hs1, hq1⟩ := hq; exact fin st G1 a w' hs1 hq1
  | exit id => obtain ⟨G1, st, hs1, hq1⟩ := hq; exact hq1.elim
  | goto l => exact hq.elim
  | panic ch => exact hq.elim
  | outgrown => exact hq.elim
end
end Dec
