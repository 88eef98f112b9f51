/-
A state told anew; loops; the body of a function.
-/
import Derived.Test.YtljlpmfmfcljaaaDecL
import Derived.Test.YtljlpmfmfcljaaaDecMk
set_option linter.unusedSimpArgs false
set_option linter.unusedVariables false
namespace Dec
open Go Go.RowKit
variable {M : Md → Prop}
def Cl.ren1 (r r' : Nat) (x : Cl) : Cl := if x.has r' then .any else x.ren r r'
def Dir.go (st : St) : Dir → Option St
  | .ren r r' => some { st with sl := st.sl.map (fun e => (e.1, e.2.1, e.2.2.map (Cl.ren1 r r'))), hp := (st.hp.filter (fun e => !(e.1 == r'))).map (fun e => (if e.1 == r then r' else e.1, e.2.1, e.2.2.map (Cl.ren1 r r'))) }
  | .cut i _ => match st.get [] i with
    | some (.v (.c (.vw q 0 n sz))) => match st.con [] q with
      | some (.arr e t l) => if decide (i < st.n) && sz == t.size then some (((st.purge q).own q [] (.arr e t (l.take n))).put i [] (.v (.c (.own q)))) else none
      | _ => none
    | _ => none
  | .cutB r k => match st.con [] r with
    | some (.box cs) => match cs[k]? with
      | some (.vw q 0 n sz) => match st.con [] q with
        | some (.arr e t l) => if q == r || (cs.set k .any).any (·.has q) || !(sz == t.size) then none else some (((st.purge q).upd r (.box (cs.set k (.own q)))).own q [] (.arr e t (l.take n)))
        | _ => none
      | _ => none
    | _ => none
  | d => Dir.app st d
theorem Ty.same_self : ∀ u : Ty, ∃ pf, Ty.same u u = some pf := by
  intro u
  induction u with
  | int k => exact ⟨⟨rfl⟩, by simp [Ty.same]⟩
  | bool => exact ⟨⟨rfl⟩, rfl⟩
  | sl u ih => obtain ⟨pf, hp⟩ := ih; exact ⟨⟨rfl⟩, by simp [Ty.same, hp]⟩
  | pr u v ih1 ih2 => obtain ⟨p1, h1⟩ := ih1; obtain ⟨p2, h2⟩ := ih2; exact ⟨⟨rfl⟩, by simp [Ty.same, h1, h2]⟩
  | ar n u ih => obtain ⟨pf, hp⟩ := ih; exact ⟨⟨rfl⟩, by simp [Ty.same, hp]⟩
  | mp u v ih1 ih2 => obtain ⟨p1, h1⟩ := ih1; obtain ⟨p2, h2⟩ := ih2; exact ⟨⟨rfl⟩, by simp [Ty.same, h1, h2]⟩
  | tr => exact ⟨⟨rfl⟩, rfl⟩
def conv : List Dir → St → Option St
  | [], st => some st
  | d :: r, st => match d.go st with
    | some s => conv r s
    | none => none
section
variable {P : Program} {w0 w : World} {S0 : Base} {G : Ghost} {st : St} {a : Act} {ops : Array Oper} {Q : XE → St → Prop}
theorem SR.ren (h : SR w0 S0 G st a w) {r r' : Nat} {st' : St} (ha : Dir.go st (.ren r r') = some st') : ∃ G', SR w0 S0 G' st' a w := by
  simp only [Dir.go] at ha
  injection ha with ha
  let G' : Ghost := { S := G.S, col := fun b => if G.col b = some r then some r' else G.col b, rho := fun q => if q = r' then G.rho r else G.rho q }
  have hf : ∀ x v, ClRep w G x v → ClRep w G' (Cl.ren1 r r' x) v := by
    intro x v hx
    unfold Cl.ren1
    cases hh : x.has r' with
    | true => simp only [if_true]; trivial
    | false =>
      simp only [Bool.false_eq_true, if_false]
      refine Cl.ren_rep (G := G) (G' := G') (fun _ hb => hb) (fun q hq => ?_) hh hx
      show (if (if q == r then r' else q) = r' then G.rho r else G.rho _) = G.rho q
      by_cases hqr : q = r
      · subst hqr; simp
      · have : (q == r) = false := by simpa using hqr
        simp only [this, Bool.false_eq_true, if_false]
        rw [if_neg hq]
  refine ⟨G', h.sub_map (Cl.ren1 r r') (fun _ hb => hb) hf h.sub ?_ (by rw [← ha]) (fun x hx => ?_) (fun x hx hh => ?_)⟩
  · intro b q hq
    have hq' : (if G.col b = some r then some r' else G.col b) = some q := hq
    split at hq'
    · rename_i e; exact h.colr b r e
    · exact h.colr b q hq'
  · subst ha
    simp only [List.mem_map] at hx
    obtain ⟨x', hx', rfl⟩ := hx
    exact ⟨x'.2.2, hx', rfl⟩
  · subst ha
    simp only [List.mem_map, List.mem_filter, Bool.not_eq_true', beq_eq_false_iff_ne, ne_eq] at hx
    obtain ⟨x', ⟨hx', hne⟩, rfl⟩ := hx
    have hc := h.hp x' hx' hh
    obtain ⟨i, q, c⟩ := x'
    simp only at hne hc hh ⊢
    have hrho : G'.rho (if i == r then r' else i) = G.rho i := by
      show (if (if i == r then r' else i) = r' then G.rho r else G.rho _) = G.rho i
      by_cases hqr : i = r
      · subst hqr; simp
      · have : (i == r) = false := by simpa using hqr
        simp only [this, Bool.false_eq_true, if_false]
        rw [if_neg hne]
    have hcol : ∀ b, G.col b = some i → G'.col b = some (if i == r then r' else i) := by
      intro b hb
      show (if G.col b = some r then some r' else G.col b) = _
      rw [hb]
      by_cases hqr : i = r
      · subst hqr; simp
      · have : (i == r) = false := by simpa using hqr
        rw [if_neg (by simpa using hqr)]
        simp [this]
    exact con_map hc (fun _ hb => hb) hf hrho hcol
def Ghost.at_ (G : Ghost) (r : Nat) (v : Value) : Ghost := { G with rho := fun q => if q = r then v else G.rho q }
theorem SR.at_ (h : SR w0 S0 G st a w) (r : Nat) (v : Value) : SR w0 S0 (G.at_ r v) (st.purge r) a w := by
  refine (h.purge r).move (fun q => q = r) (fun b hb => ⟨hb, rfl⟩) (fun q hq => ?_) (fun b q _ hb => ⟨hb, rfl⟩) h.below h.sub h.colr rfl (fun e he => ⟨he, purge_sl he⟩) (fun e he => ⟨he, purge_hp he⟩)
  simp [Ghost.at_, hq]
theorem SR.retell (h : SR w0 S0 G st a w) {r : Nat} {c : Con} (hc : ConRep w G r c) : SR w0 S0 G (st.upd r c) a w := by
  refine ⟨h.below, h.sub, h.colr, h.df, h.size, h.sl, fun e he hh => ?_⟩
  simp only [St.upd, List.mem_map] at he
  obtain ⟨e', he', rfl⟩ := he
  by_cases hr : e'.1 = r
  · simp only [hr, beq_self_eq_true, if_true] at hh ⊢
    exact hc
  · have hr' : (e'.1 == r) = false := by simpa using hr
    simp only [hr', Bool.false_eq_true, if_false] at hh ⊢
    exact h.hp e' he' hh
theorem SR.own_at (h : SR w0 S0 G st a w) {i r : Nat} {e : TypeId} {t : Ty} {l : List t.T} {xs : List Value} (hi : i < st.n) (hx : EncL (Enc w G.S t) l xs) (ho : w.ownsRow 0 e t.size (a.tmps.getD i undef) l.length xs) (hm : l.length ≤ maxLen)
    (hg : ∀ g, (a.tmps.getD i undef).ownBlock = some g → G.col g = some r) :
    SR w0 S0 (G.at_ r (a.tmps.getD i undef)) (((st.purge r).own r [] (.arr e t l)).put i [] (.v (.c (.own r)))) a w := by
  have h1 := h.at_ r (a.tmps.getD i undef)
  have h2 := h1.own (r := r) (p := []) (c := .arr e t l) fun _ => ⟨xs, hx, by simpa [Ghost.at_] using ho, hm, by simpa [Ghost.at_] using hg⟩
  have h3 := h2.put (i := i) (p := []) (x := .v (.c (.own r))) (v := a.tmps.getD i undef) hi rfl (fun _ => ?_) (fun hn => absurd holds_nil hn)
  · rw [put_same (by rw [h.size]; exact hi)] at h3
    exact h3
  · refine ⟨by simp [Ghost.at_], ?_⟩
    obtain ⟨ad, c, e1, _⟩ := owns_form ho
    exact .inl ⟨ad, _, c, e1⟩
theorem SR.cutB (h : SR w0 S0 G st a w) {r k : Nat} {st' : St} (hd : Dir.go st (.cutB r k) = some st') : ∃ G', SR w0 S0 G' st' a w := by
  simp only [Dir.go] at hd
  split at hd
  · rename_i cs hcon
    split at hd
    · rename_i q n sz hk
      split at hd
      · rename_i e t l hq
        split at hd
        · cases hd
        · rename_i hck
          simp only [Bool.or_eq_true, beq_iff_eq, List.any_eq_true, not_or, not_exists, not_and, Bool.not_eq_true, Bool.not_eq_false', Bool.not_not, Bool.not_eq_true'] at hck
          obtain ⟨⟨hqr, hcs⟩, hsz⟩ := hck
          have hsz : sz = t.size := by simpa using hsz
          injection hd with hd
          subst hd
          obtain ⟨b, vs, e', hrho, hcol, hb, h2⟩ := h.con_ holds_nil hcon
          obtain ⟨v, hv, hvr⟩ := h2.get k _ hk
          have hb0 : baseOf st e t (.v (.c (.vw q 0 n sz))) = some (some q, l.take n) := by
            simp only [baseOf, hq]
            obtain ⟨pf, hp⟩ := Ty.same_self t
            rw [hp]
            simp [hsz]
          obtain ⟨xs, e1, e2, e3⟩ := base_rep (v := v) hb0 h hvr
          have hm : l.length ≤ maxLen := (h.con_ holds_nil hq).choose_spec.2.2.1
          have h1 := h.at_ q v
          have hset : ∀ y : Cl, vs.toList.set k v = vs.toList := fun _ => by
            apply List.ext_getElem?
            intro j
            rw [List.getElem?_set]
            by_cases hj : k = j
            · subst hj
              rw [if_pos rfl, if_pos (List.getElem?_eq_some_iff.1 hv).1, hv]
            · rw [if_neg hj]
          have h5 : All2 (ClRep w G) (cs.set k .any) vs.toList := by
            have := h2.set k .any v (show ClRep w G .any v from trivial)
            rwa [hset .any] at this
          have hr0 : ∀ x ∈ cs.set k .any, ∀ u, ClRep w G x u → ClRep w (G.at_ q v) x u := fun x hx u hu =>
            ClRep.keep (w := w) (G := G) (fun b hb => ⟨hb, rfl⟩) (fun r' hr' => by
              simp only [Ghost.at_]
              rw [if_neg]
              rintro rfl
              rw [hcs x hx] at hr'
              cases hr') hu
          have h3 : ConRep w (G.at_ q v) r (.box (cs.set k (.own q))) := by
            refine ⟨b, vs, e', ?_, hcol, hb, ?_⟩
            · simp only [Ghost.at_]
              rw [if_neg (fun e => hqr e.symm)]
              exact hrho
            · have h4 := All2.imp (R' := ClRep w (G.at_ q v)) hr0 h5
              obtain ⟨ad, c, e6, _⟩ := owns_form e2
              have := h4.set k (.own q) v (show ClRep w (G.at_ q v) (.own q) v from ⟨by simp [Ghost.at_], .inl ⟨_, _, _, e6⟩⟩)
              rwa [List.set_set, hset .any] at this
          refine ⟨_, (h1.retell h3).own (fun _ => ⟨xs, e1, by simp only [Ghost.at_, if_true]; exact e2, by simp; omega, fun g hg => ?_⟩)⟩
          simp only [Ghost.at_, if_true] at hg
          obtain ⟨r', e7, e8⟩ := e3 g hg
          injection e7 with e7
          subst e7
          exact e8
      · cases hd
    · cases hd
  · cases hd
theorem SR.anyS (h : SR w0 S0 G st a w) (i : Nat) : SR w0 S0 G { st with sl := st.sl.map fun e => if e.1 == i then (e.1, e.2.1, .v (.c .any)) else e } a w := by
  refine ⟨h.below, h.sub, h.colr, h.df, h.size, fun e he => ?_, h.hp⟩
  obtain ⟨e0, he0, rfl⟩ := List.mem_map.1 he
  have h0 := h.sl e0 he0
  split
  · exact ⟨h0.1, fun _ => trivial, h0.2.2⟩
  · exact h0
theorem SR.dir (h : SR w0 S0 G st a w) {d : Dir} {st' : St} (hd : d.go st = some st') : ∃ G', SR w0 S0 G' st' a w := by
  cases d with
  | anyS i =>
    simp only [Dir.go, Dir.app] at hd
    injection hd with hd
    subst hd
    exact ⟨G, h.anyS i⟩
  | ren r r' => exact h.ren hd
  | freeze r => obtain ⟨B, hB⟩ := h.freeze hd; exact ⟨_, hB⟩
  | freezeB r t => obtain ⟨B, hB⟩ := h.freezeB hd; exact ⟨_, hB⟩
  | nilPB r k t =>
    simp only [Dir.go, Dir.app] at hd
    split at hd
    · rename_i cs hcon
      split at hd
      · rename_i hk
        injection hd with hd
        subst hd
        obtain ⟨b, vs, e', hrho, hcol, hb, h2⟩ := h.con_ holds_nil hcon
        refine ⟨G, h.retell ⟨b, vs, e', hrho, hcol, hb, ?_⟩⟩
        obtain ⟨v, hv, hvr⟩ := h2.get k _ hk
        have hvr' : v = .slice none 0 0 := hvr
        subst hvr'
        have := h2.set k (.p (.sl t) []) (.slice none 0 0) (show ClRep w G (.p (.sl t) []) (.slice none 0 0) from ⟨none, 0, rfl, Nat.le_refl _, Nat.zero_le _, .inl rfl⟩)
        rw [show vs.toList.set k (.slice none 0 0) = vs.toList from by
          apply List.ext_getElem?
          intro j
          rw [List.getElem?_set]
          by_cases hj : k = j
          · subst hj
            rw [if_pos rfl, if_pos (List.getElem?_eq_some_iff.1 hv).1, hv]
          · rw [if_neg hj]] at this
        exact this
      · cases hd
    · cases hd
  | nilOwnB r k q e t =>
    simp only [Dir.go, Dir.app] at hd
    split at hd
    · rename_i cs hcon
      split at hd
      · rename_i hk
        split at hd
        · cases hd
        · rename_i hq
          simp only [Bool.or_eq_true, beq_iff_eq, List.any_eq_true, not_or, not_exists, not_and, Bool.not_eq_true] at hq
          obtain ⟨hqr, hcs⟩ := hq
          split at hd
          · injection hd with hd
            subst hd
            have h1 := h.at_ q (.slice none 0 0)
            have hr0 : ∀ x ∈ cs, ∀ v, ClRep w G x v → ClRep w (G.at_ q (.slice none 0 0)) x v := fun x hx v hv =>
              ClRep.keep (w := w) (G := G) (fun b hb => ⟨hb, rfl⟩) (fun r hr => by
                simp only [Ghost.at_]
                rw [if_neg]
                rintro rfl
                rw [hcs x hx] at hr
                cases hr) hv
            obtain ⟨b, vs, e', hrho, hcol, hb, h2⟩ := h.con_ holds_nil hcon
            have h3 : ConRep w (G.at_ q (.slice none 0 0)) r (.box (cs.set k (.own q))) := by
              refine ⟨b, vs, e', ?_, hcol, hb, ?_⟩
              · simp only [Ghost.at_]
                rw [if_neg (fun e => hqr e.symm)]
                exact hrho
              · have h4 := All2.imp (R' := ClRep w (G.at_ q (.slice none 0 0))) hr0 h2
                obtain ⟨v, hv, hvr⟩ := h4.get k _ hk
                have hvr' : v = .slice none 0 0 := hvr
                subst hvr'
                have := h4.set k (.own q) (.slice none 0 0) (show ClRep w (G.at_ q (.slice none 0 0)) (.own q) (.slice none 0 0) from ⟨by simp [Ghost.at_], .inl ⟨_, _, _, rfl⟩⟩)
                rw [show vs.toList.set k (.slice none 0 0) = vs.toList from by
                  apply List.ext_getElem?
                  intro j
                  rw [List.getElem?_set]
                  by_cases hj : k = j
                  · subst hj
                    rw [if_pos rfl, if_pos (List.getElem?_eq_some_iff.1 hv).1, hv]
                  · rw [if_neg hj]] at this
                exact this
            exact ⟨_, (h1.retell h3).own (fun _ => ⟨[], rfl, by simp only [Ghost.at_, if_true]; exact World.ownsRow_nil _ _ _ _, Nat.zero_le _, fun g hg => by simp [Ghost.at_, Value.ownBlock] at hg⟩)⟩
          · cases hd
      · cases hd
    · cases hd
  | prune sl hp =>
    simp only [Dir.go, Dir.app] at hd
    injection hd with hd
    subst hd
    exact ⟨G, h.below, h.sub, h.colr, h.df, h.size, fun e he => h.sl e (pick_mem he), fun e he => h.hp e (pick_mem he)⟩
  | nilOwn i r e t =>
    simp only [Dir.go, Dir.app] at hd
    split at hd
    · rename_i hg
      split at hd
      · rename_i hi
        injection hd with hd
        subst hd
        have hv : a.tmps.getD i undef = .slice none 0 0 := h.get_ holds_nil hg
        refine ⟨_, h.own_at (by simpa using hi) (xs := []) rfl ?_ (Nat.zero_le _) (fun g hg => ?_)⟩
        · rw [hv]; exact World.ownsRow_nil _ _ _ _
        · rw [hv] at hg; simp [Value.ownBlock] at hg
      · cases hd
    · cases hd
  | nilP i t =>
    simp only [Dir.go, Dir.app] at hd
    split at hd
    · rename_i hg
      split at hd
      · rename_i hi
        injection hd with hd
        subst hd
        have hv : a.tmps.getD i undef = .slice none 0 0 := h.get_ holds_nil hg
        have h3 := h.put (i := i) (p := []) (x := .v (.c (.p (.sl t) []))) (v := a.tmps.getD i undef) (by simpa using hi) rfl (fun _ => by rw [hv]; exact ⟨none, 0, rfl, Nat.le_refl _, Nat.zero_le _, .inl rfl⟩) (fun hn => absurd holds_nil hn)
        rw [put_same (by rw [h.size]; simpa using hi)] at h3
        exact ⟨_, h3⟩
      · cases hd
    · cases hd
  | cutB r k => exact h.cutB hd
  | cut i r =>
    simp only [Dir.go] at hd
    split at hd
    · rename_i q n sz hg
      split at hd
      · rename_i e t l hcon
        split at hd
        · rename_i hck
          simp only [Bool.and_eq_true, decide_eq_true_eq, beq_iff_eq] at hck
          injection hd with hd
          subst hd
          have hx := h.get_ holds_nil hg
          obtain ⟨rx, hm⟩ : (∃ xs, EncL (Enc w G.S t) (l.take n) xs ∧ w.ownsRow 0 e t.size (a.tmps.getD i undef) (l.take n).length xs ∧ ∀ g, (a.tmps.getD i undef).ownBlock = some g → G.col g = some q) ∧ l.length ≤ maxLen := by
            refine ⟨?_, ?_⟩
            · have hb : baseOf st e t (.v (.c (.vw q 0 n sz))) = some (some q, l.take n) := by
                simp only [baseOf, hcon]
                obtain ⟨pf, hp⟩ := Ty.same_self t
                rw [hp]
                simp [hck.2]
              obtain ⟨xs, h1, h2, h3⟩ := base_rep hb h hx
              exact ⟨xs, h1, h2, fun g hg => by obtain ⟨r', e1, e2⟩ := h3 g hg; injection e1 with e1; subst e1; exact e2⟩
            · exact (h.con_ holds_nil hcon).choose_spec.2.2.1
          obtain ⟨xs, h1, h2, h3⟩ := rx
          exact ⟨_, h.own_at hck.1 h1 h2 (by simp; omega) h3⟩
        · cases hd
      · cases hd
    · cases hd
theorem SR.conv_ (h : SR w0 S0 G st a w) : ∀ {ds : List Dir} {st' : St}, conv ds st = some st' → ∃ G', SR w0 S0 G' st' a w := by
  intro ds
  induction ds generalizing st G with
  | nil => intro st' hc; simp only [conv] at hc; injection hc with hc; subst hc; exact ⟨G, h⟩
  | cons d r ih =>
    intro st' hc
    simp only [conv] at hc
    split at hc
    · rename_i s hs
      obtain ⟨G', h'⟩ := h.dir hs
      exact ih h' hc
    · cases hc
theorem awl_conv {l : List Oper} {st' : St} (ds : List Dir) (hc : conv ds st = some st') (h : AWL M P ops l Q st') : AWL M P ops l Q st := by
  intro m w0 S0 G a w hs
  obtain ⟨G', hs'⟩ := hs.conv_ hc
  exact h _ _ _ _ _ _ hs'
theorem aw_conv {c : Code} {st' : St} (ds : List Dir) (hc : conv ds st = some st') (h : AW M P c Q st') : AW M P c Q st := by
  intro m w0 S0 G a w hs
  obtain ⟨G', hs'⟩ := hs.conv_ hc
  exact h _ _ _ _ _ _ hs'
/-! ### a loop -/
theorem aw_loop {σ : Type} (J : σ → St) (B : σ → (σ → Prop) → Prop) {c : Code} {s0 : σ} (hB : ∀ s X, B s X → AW M P c (thenQ (fun st' => ∃ s', st' = J s' ∧ X s') Q) (J s)) (h : Loop B s0) : AW M P (.loop c) Q (J s0) := by
  intro m w0 S0 G a w hs
  refine cwp_loop (fun _ _ => True) trivial fun Y hY => ?_
  have key : ∀ G a w, SR w0 S0 G (J s0) a w → Y a w := by
    refine h (fun s => ∀ G a w, SR w0 S0 G (J s) a w → Y a w) ?_
    intro s hX G a w hs
    refine hY a w (Go.wpIn_mono (hB s _ hX m w0 S0 G a w hs) ?_)
    intro e a' w' hq
    cases e with
    | normal => obtain ⟨G1, st1, hs1, s', rfl, hX'⟩ := hq; exact hX' G1 a' w' hs1
    | exit id => obtain ⟨G1, st1, hs1, hq1⟩ := hq; exact (show QC w0 S0 Q (.exit id) a' w' from ⟨G1, st1, hs1, hq1⟩)
    | ret => obtain ⟨G1, st1, hs1, hq1⟩ := hq; exact (show QC w0 S0 Q .ret a' w' from ⟨G1, st1, hs1, hq1⟩)
    | goto l => exact hq.elim
    | panic ch => exact hq.elim
    | outgrown => exact hq.elim
  exact key G a w hs
/-! ### the body of a function -/
def argSlots : Nat → List V1 → List (Nat × Path × AV)
  | _, [] => []
  | i, x :: r => (i, [], .v x) :: argSlots (i + 1) r
inductive RV where
  | t (i : Nat)
  | c (i : Nat) (ty : TypeId)
def RV.toVar : RV → ResultVar
  | .t i => .tmp i
  | .c i ty => .cell i ty
def RV.val (P : Program) (st : St) : RV → Option (Prop × AV)
  | .t i => match st.get [] i with
    | some x => some (True, x)
    | none => none
  | .c i ty => match st.get [] i with
    | some (.v (.c (.ptr _ _))) => evalZ P st [] (.load ty (.tmp i))
    | _ => none
def resOf (P : Program) (st : St) : List Ty → List RV → Option (Prop × List V1)
  | [], [] => some (True, [])
  | t :: ts, r :: rs => match RV.val P st r, resOf P st ts rs with
    | some (ob, x), some (ob', l) => match datumOf st [] false t x with
      | some y => some (ob ∧ ob', y :: l)
      | none => none
    | _, _ => none
  | _, _ => none
def retQ (P : Program) (tys : List Ty) (rs : List RV) (K : List V1 → Prop) : XE → St → Prop
  | .x _, _ => False
  | _, st => ∃ ob res, resOf P st tys rs = some (ob, res) ∧ ob ∧ K res
theorem argSlots_mem {w : World} {G : Ghost} : ∀ {xs : List V1} {vs : List Value} {i : Nat} {e : Nat × Path × AV}, All2 (V1Rep w G) xs vs → e ∈ argSlots i xs → e.2.1 = [] ∧ i ≤ e.1 ∧ ∃ v, vs[e.1 - i]? = some v ∧ AVRep w G e.2.2 v
  | [], _, _, _, _, he => by simp [argSlots] at he
  | x :: xs, v :: vs, i, e, h, he => by
    simp only [argSlots, List.mem_cons] at he
    rcases he with rfl | he
    · exact ⟨rfl, Nat.le_refl _, v, by simp, h.1⟩
    · obtain ⟨h1, h2, u, h3, h4⟩ := argSlots_mem h.2 he
      refine ⟨h1, by omega, u, ?_, h4⟩
      rw [show e.1 - i = (e.1 - (i + 1)) + 1 by omega]
      simpa using h3
  | _ :: _, [], _, _, h, _ => h.elim
def RVal (P : Program) (tmps : Array Value) (w : World) : RV → Value → Prop
  | .t i, u => u = tmps.getD i undef
  | .c i ty, u => ∃ ad, tmps.getD i undef = .pointer (some ad) ∧ (loadVar ty ad).run P w = .ok u w
def rvSem (tmps : Array Value) : RV → Sem Value
  | .t i => pure (tmps.getD i undef)
  | .c i ty => do loadVar ty (← asAddr (tmps.getD i undef))
theorem run_rvSem (tmps : Array Value) (w : World) : ∀ {rs : List RV} {us : List Value}, All2 (RVal P tmps w) rs us → (List.mapM (rvSem tmps) rs).run P w = .ok us w
  | [], [], _ => rfl
  | .t i :: rs, u :: us, h => by
    have h1' : u = tmps.getD i undef := h.1
    simp only [List.mapM_cons, Sem.run_bind, rvSem, Sem.run_pure, Result.andThen_ok, run_rvSem tmps w h.2, ← h1']
  | .c i ty :: rs, u :: us, h => by
    obtain ⟨ad, h2, h3⟩ := h.1
    have ha : (asAddr (.pointer (some ad)) : Sem Addr) = pure ad := rfl
    simp only [List.mapM_cons, Sem.run_bind, rvSem, h2, ha, Sem.run_pure, Result.andThen_ok, h3, run_rvSem tmps w h.2]
  | [], _ :: _, h => h.elim
  | _ :: _, [], h => h.elim
theorem run_results {fn : Func} {rs : List RV} (hr : fn.results = (rs.map RV.toVar).toArray) (tmps : Array Value) (w : World) {us : List Value} (h : All2 (RVal P tmps w) rs us) : (results fn tmps).run P w = .ok (retVal us) w := by
  have hm : ∀ f : ResultVar → Sem Value, (∀ r : RV, f r.toVar = rvSem tmps r) → (Array.mapM f fn.results).run P w = .ok us.toArray w := by
    intro f hf
    rw [hr, List.mapM_toArray, List.mapM_map]
    have : (f ∘ RV.toVar) = rvSem tmps := funext hf
    simp only [Sem.run_map]
    rw [this, run_rvSem tmps w h]
    rfl
  unfold results
  simp only [Sem.run_bind]
  rw [hm _ (fun r => by cases r <;> rfl)]
  simp only [Result.andThen_ok, Sem.run_pure]
  congr 1
  cases us with
  | nil => rfl
  | cons t r =>
    cases r with
    | nil => rfl
    | cons u r => simp [retVal]
theorem RV.val_rep (h : SR w0 S0 G st a w) {r : RV} {ob : Prop} {x : AV} (hv : r.val P st = some (ob, x)) (hob : ob) : ∃ u, RVal P a.tmps w r u ∧ AVRep w G x u := by
  cases r with
  | t i =>
    simp only [RV.val] at hv
    split at hv
    · rename_i y hy
      injection hv with hv; injection hv with e1 e2; subst e1 e2
      exact ⟨_, rfl, h.get_ holds_nil hy⟩
    · cases hv
  | c i ty =>
    simp only [RV.val] at hv
    split at hv
    · rename_i q off hy
      obtain ⟨b, hr, hp⟩ := h.get_ holds_nil hy
      obtain ⟨u, h1, h2⟩ := evalZ_sound (o := ⟨none, .load ty (.tmp i), 0, "", #[], none⟩) (fun _ _ _ e => by cases e) hv hob h holds_nil (D := []) (X := fun _ => False) (fun _ hx => hx.elim) (ldOk_nil [] _)
      refine ⟨u, ⟨_, hp, ?_⟩, h2⟩
      have h3 := h1 w (fun _ => Agree.refl _ w)
      simp only [execOp, Act.eval, hp, Instr.loadAt, Instr.sureAddr, Sem.run_bind, Sem.run_pure, Result.andThen_ok] at h3
      generalize (loadVar ty _).run P w = z at h3
      cases z with
      | ok v w1 => simp only [Result.andThen_ok] at h3; injection h3 with h3 h4; injection h3 with h3; rw [h3, h4]
      | halt => simp at h3
    · cases hv
theorem resOf_rep (h : SR w0 S0 G st a w) : ∀ {ts : List Ty} {rs : List RV} {ob : Prop} {l : List V1}, resOf P st ts rs = some (ob, l) → ob → ∃ us, All2 (RVal P a.tmps w) rs us ∧ All2 (PRep w G.S) l us
  | [], [], ob, l, hr, _ => by
    simp only [resOf] at hr
    injection hr with hr; injection hr with e1 e2; subst e1 e2
    exact ⟨[], trivial, trivial⟩
  | t :: ts, r :: rs, ob, l, hr, hob => by
    simp only [resOf] at hr
    split at hr
    · rename_i ob1 x ob2 l' h1 h2
      split at hr
      · rename_i y hy
        injection hr with hr; injection hr with e1 e2; subst e1 e2
        obtain ⟨u, k1, k2⟩ := RV.val_rep h h1 hob.1
        obtain ⟨us, k3, k4⟩ := resOf_rep h h2 hob.2
        exact ⟨u :: us, ⟨k1, k3⟩, datumOf_rep (own := false) h holds_nil hy k2, k4⟩
      · cases hr
    · cases hr
  | [], _ :: _, _, _, hr, _ => by simp [resOf] at hr
  | _ :: _, [], _, _, hr, _ => by simp [resOf] at hr
theorem SR.shut (h : SR w0 S0 G st a w) : ∃ rs : List Nat, a.defers = rs.map mark ∧ rs.Nodup ∧ (∀ r ∈ rs, w.heap[r]? = some (.deferred (some []))) ∧ SR w0 S0 (G.less (· ∈ rs)) st { a with defers := [] } (shutAll rs w) := by
  obtain ⟨rs, h1, h2, h3⟩ := h.df
  have hN : ∀ b, b ∈ rs → ∃ ds, w.heap[b]? = some (.deferred ds) := fun b hb => ⟨_, (h3 b hb).2.2⟩
  have hk : ∀ b, (G.less (· ∈ rs)).S b → (G.less (· ∈ rs)).S b ∧ (shutAll rs w).heap[b]? = w.heap[b]? := fun b hb => shut_keep b hb
  have hc : ∀ b r, G.col b = some r → b ∉ rs := fun b r hb hh => (h.colr b r hb).2.2 (h3 b hh).1
  refine ⟨rs, h1, h2, fun r hr => (h3 r hr).2.2, h.below.shut (fun r hr => (h3 r hr).2.1), fun b hb => ?_, fun b r hb => ?_, DfOk.none _ _ _ rfl, h.size, fun e he => ?_, fun e he hh => ?_⟩
  · rw [shutAll_size]; exact h.sub b hb.1
  · rw [shutAll_size]
    have := h.colr b r hb
    exact ⟨this.1, this.2.1, fun hh => this.2.2 hh.1⟩
  · obtain ⟨k1, k2, k3⟩ := h.sl e he
    exact ⟨k1, fun hh => AVRep.keep hk (fun _ _ => rfl) (AVRep.less hN (k2 hh)), k3⟩
  · exact ConRep.keep hk rfl (fun _ _ => rfl) (fun b hb => ⟨hb, shutAll_other (hc b _ hb)⟩) (ConRep.less hN (h.hp e he hh))
theorem SR.begin {fn : Func} {args : List V1} {vs : List Value} {S0 : Base} {G : Ghost} {hp : List (Nat × Path × Con)} (hlen : args.length = vs.length) (hn : args.length ≤ fn.ntmps) (hargs : All2 (V1Rep w G) args vs) (hS : ∀ b, G.S b → b < w.heap.size ∧ S0.S b) (hc : ∀ b r, G.col b = some r → S0.F b ∧ b < w.heap.size ∧ ¬ G.S b)
    (hhp : ∀ e ∈ hp, ConRep w G e.1 e.2.2) :
    SR w S0 G ⟨fn.ntmps, argSlots 0 args, hp⟩ { tmps := vs.toArray ++ Array.replicate (fn.ntmps - vs.toArray.size) undef, defers := [] } w := by
  refine ⟨Fr.refl _ _ _, fun b hb => ⟨(hS b hb).1, .inl (hS b hb).2⟩, fun b r hb => ⟨.inl (hc b r hb).1, (hc b r hb).2⟩, DfOk.none _ _ _ rfl, by simp; omega, fun e he => ?_, fun e he _ => hhp e he⟩
  obtain ⟨h1, h2, v, h3, h4⟩ := argSlots_mem (G := G) hargs he
  have hlt : e.1 < vs.length := by have := (List.getElem?_eq_some_iff.1 h3).1; omega
  have hv : ({ tmps := vs.toArray ++ Array.replicate (fn.ntmps - vs.toArray.size) undef, defers := [] } : Act).tmps.getD e.1 undef = v := by
    simp only [Array.getD_eq_getD_getElem?]
    rw [Array.getElem?_append_left (by simpa using hlt)]
    simp at h3 ⊢
    rw [h3]
    rfl
  have hsv : slotV S0 ({ tmps := vs.toArray ++ Array.replicate (fn.ntmps - vs.toArray.size) undef, defers := [] } : Act) e.1 = v := by
    rw [slotV_in (by simp; omega), hv]
  exact ⟨trivial, fun _ => by rw [hsv]; exact h4, fun hn => absurd (by rw [h1]; exact holds_nil) hn⟩
theorem acalls_of_aw {f : FuncId} {fn : Func} {c : Code} {args : List V1} {K : List V1 → Prop} (tys : List Ty) (rs : List RV) (hf : P.funcs[f]? = some fn) (hb : fn.body = some c) (hr : fn.results = (rs.map RV.toVar).toArray)
    (hn : decide (args.length ≤ fn.ntmps) = true) (h : AW Fm P c (retQ P tys rs K) ⟨fn.ntmps, argSlots 0 args, []⟩) : ACalls P f args K := by
  intro w S vs hS hargs
  have hlen := hargs.length
  simp only [decide_eq_true_eq] at hn
  let G : Ghost := { S := S, col := fun _ => none, rho := fun _ => undef }
  let S0 : Base := { S := S, F := fun _ => False }
  have hs : SR w S0 G ⟨fn.ntmps, argSlots 0 args, []⟩ { tmps := vs.toArray ++ Array.replicate (fn.ntmps - vs.toArray.size) undef, defers := [] } w :=
    SR.begin hlen hn (All2.imp (fun _ _ _ hh => ARep.v1 (G := G) hh) hargs) (fun b hb => ⟨hS b hb, hb⟩) (fun b r hb => by simp [G] at hb) (fun e he => by simp at he)
  have fin : ∀ (st : St) (G1 : Ghost) (a : Act) (w' : World), SR w S0 G1 st a w' → (∃ ob res, resOf P st tys rs = some (ob, res) ∧ ob ∧ K res) →
      ∃ ms : List Nat, a.defers = ms.map mark ∧ ms.Nodup ∧ (∀ r ∈ ms, w'.heap[r]? = some (.deferred (some []))) ∧ ∃ v, (results fn a.tmps).run P (shutAll ms w') = .ok v (shutAll ms w') ∧ ∃ (us : List Value) (res : List V1) (S' : Nat → Prop), Ending.returned v = .returned (retVal us) ∧ Bel w.heap.size w (shutAll ms w') ∧
        (∀ b, S' b → b < (shutAll ms w').heap.size ∧ (S b ∨ w.heap.size ≤ b)) ∧ All2 (PRep (shutAll ms w') S') res us ∧ K res := by
    rintro st G1 a w' hs0 ⟨ob, res, hres, hob, hK⟩
    obtain ⟨ms, m1, m2, m3, hs1⟩ := hs0.shut
    obtain ⟨us, h1, h2⟩ := resOf_rep hs1 hres hob
    refine ⟨ms, m1, m2, m3, _, run_results hr a.tmps _ h1, us, res, _, rfl, hs1.below.below (fun k _ hx => hx), fun b hb => ?_, h2, hK⟩
    obtain ⟨h3, h4⟩ := hs1.sub b hb
    refine ⟨h3, ?_⟩
    rcases h4 with h4 | h4 | h4
    · exact .inl h4
    · exact .inr h4
    · exact h4.elim
  refine calls_of_body hf hb (h ⟨none, rfl⟩ w S0 G _ w hs) ?_
  intro e a w' hq
  cases e with
  | normal => obtain ⟨G1, st, hs1, hq1⟩ := hq; exact ⟨.inl rfl, fin st G1 a w' hs1 hq1⟩
  | ret => obtain ⟨G1, st, hs1, hq1⟩ := hq; exact ⟨.inr rfl, fin st G1 a w' hs1 hq1⟩
  | exit id => obtain ⟨G1, st, hs1, hq1⟩ := hq; exact hq1.elim
  | goto l => exact hq.elim
  | panic ch => exact hq.elim
  | outgrown => exact hq.elim
end
end Dec
