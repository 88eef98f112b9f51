/-
Deep rows: an element opened, shut, found again; rows made; rows that nobody turns any more.
-/
import Derived.Test.YtckghdhnmpnljaaDecO
set_option linter.unusedSimpArgs false
set_option linter.unusedVariables false
namespace Dec
open Go Go.RowKit
def nodupB : List Nat → Bool
  | [] => true
  | x :: r => !r.contains x && nodupB r
theorem nodupB_iff : ∀ {l : List Nat}, nodupB l = true → l.Nodup
  | [], _ => List.nodup_nil
  | x :: r, h => by
    simp only [nodupB, Bool.and_eq_true, Bool.not_eq_true'] at h
    exact List.nodup_cons.2 ⟨by simpa using h.1, nodupB_iff h.2⟩
def Trn (st st' : St) (C : List (Nat × Nat)) : Prop := ∀ (w0 : World) (S0 : Base) (G : Ghost) (a : Act) (w : World), SR w0 S0 G st a w → ∃ G', SR w0 S0 G' st' a w ∧ ∀ b s, G'.col b = some s → G.col b = some s ∨ ∃ s', (s, s') ∈ C ∧ G.col b = some s'
section
variable {M : Md → Prop} {P : Program} {w0 w : World} {S0 : Base} {G : Ghost} {st st' : St} {a : Act} {ops : Array Oper} {Q : XE → St → Prop} {D : List Nat} {C : List (Nat × Nat)}
theorem aw_turn {c : Code} (H : Trn st st' C) (h : AW M P c Q st') : AW M P c Q st := fun m w0 S0 G a w hs => by
  obtain ⟨G', hs', _⟩ := H w0 S0 G a w hs
  exact h m w0 S0 G' a w hs'
theorem awl_turn {l : List Oper} (H : Trn st st' C) (h : AWL M P ops l Q st') : AWL M P ops l Q st := fun m w0 S0 G a w hs => by
  obtain ⟨G', hs', _⟩ := H w0 S0 G a w hs
  exact h m w0 S0 G' a w hs'
theorem awd_turn {done : List Nat} (H : Trn st st' C) (hC : (C.all fun c => !D.contains c.1 || D.contains c.2) = true) (h : AWD M P ops D done Q st') : AWD M P ops D done Q st := by
  intro m w0 S0 G a w hs
  obtain ⟨G', hs', hcol⟩ := H w0 S0 G a w hs
  refine awpH_weaken (fun w' hw' => ⟨hw'.1, fun b hb hx => hw'.2 b hb ?_⟩) _ _ _ _ (h _ _ _ _ _ _ hs')
  rintro ⟨q, hq, e⟩
  rcases hcol b q e with h1 | ⟨q', h1, h2⟩
  · exact hx ⟨q, hq, h1⟩
  · have := List.all_eq_true.1 hC _ h1
    simp only [Bool.or_eq_true, Bool.not_eq_true'] at this
    rcases this with h3 | h3
    · have : D.contains q = true := by simpa using hq
      rw [this] at h3; cases h3
    · exact hx ⟨q', by simpa using h3, h2⟩
def St.purgeL (st : St) : List Nat → St
  | [] => st
  | q :: T => (st.purge q).purgeL T
theorem SR.purgeL : ∀ {T : List Nat} {st : St}, SR w0 S0 G st a w → SR w0 S0 G (st.purgeL T) a w
  | [], _, h => h
  | q :: T, _, h => SR.purgeL (T := T) (h.purge q)
theorem purgeL_n : ∀ {T : List Nat} {st : St}, (st.purgeL T).n = st.n
  | [], _ => rfl
  | _ :: T, st => purgeL_n (T := T) (st := st.purge _)
theorem purgeL_sl : ∀ {T : List Nat} {st : St} {e}, e ∈ (st.purgeL T).sl → e ∈ st.sl ∧ ∀ q ∈ T, e.2.2.has q = false
  | [], _, _, h => ⟨h, fun q hq => by simp at hq⟩
  | x :: T, st, e, h => by
    obtain ⟨h1, h2⟩ := purgeL_sl (T := T) (st := st.purge x) h
    have h3 := purge_sl h1
    refine ⟨by simp only [St.purge, List.mem_filter] at h1; exact h1.1, fun q hq => ?_⟩
    rcases List.mem_cons.1 hq with rfl | hq
    · cases hh : e.2.2.has q with
      | false => rfl
      | true => exact absurd rfl (h3 q hh)
    · exact h2 q hq
theorem purgeL_hp : ∀ {T : List Nat} {st : St} {e}, e ∈ (st.purgeL T).hp → (∃ e0 ∈ st.hp, e0.1 = e.1 ∧ e0.2.1 = e.2.1) ∧ (∀ q ∈ T, e.1 ≠ q ∧ e.2.2.has q = false)
  | [], _, e, h => ⟨⟨e, h, rfl, rfl⟩, fun q hq => by simp at hq⟩
  | x :: T, st, e, h => by
    obtain ⟨⟨e0, h1, h2, h2'⟩, h3⟩ := purgeL_hp (T := T) (st := st.purge x) h
    have h4 := purge_hp h1
    have key : ∀ {T : List Nat} {st : St} {e : Nat × Path × Con} {x : Nat}, (∀ e ∈ st.hp, e.2.2.has x = false) → e ∈ (st.purgeL T).hp → e.2.2.has x = false := by
      intro T
      induction T with
      | nil => intro st e x h he; exact h e he
      | cons y T ih =>
        intro st e x h he
        refine ih (st := st.purge y) (fun e' he' => ?_) he
        simp only [St.purge, List.mem_map, List.mem_filter] at he'
        obtain ⟨e2, ⟨h5, _⟩, rfl⟩ := he'
        cases hh : Con.has x (e2.2.2.blur y) with
        | false => rfl
        | true => have h7 := (Con.has_of_blur hh).1; rw [h e2 h5] at h7; cases h7
    refine ⟨?_, fun q hq => ?_⟩
    · simp only [St.purge, List.mem_map, List.mem_filter] at h1
      obtain ⟨e2, ⟨h5, _⟩, rfl⟩ := h1
      exact ⟨e2, h5, h2, h2'⟩
    · rcases List.mem_cons.1 hq with rfl | hq
      · refine ⟨fun e5 => h4.1 (by rw [h2]; exact e5), key (st := st.purge q) (fun e' he' => ?_) h⟩
        cases hh : Con.has q e'.2.2 with
        | false => rfl
        | true => exact absurd rfl ((purge_hp he').2 q hh)
      · exact h3 q hq
theorem SR.retag (h : SR w0 S0 G st a w) (G' : Ghost) (T : List Nat) (r0 : Nat) (hS : G'.S = G.S) (hrho : ∀ q, q ∉ T → G'.rho q = G.rho q) (hcb : ∀ b q, G'.col b = some q → ∃ q', G.col b = some q')
    (hcol : ∀ b q, q ∉ T → q ≠ r0 → G.col b = some q → G'.col b = some q) {st' : St} (hn : st'.n = st.n) (hsl : ∀ e ∈ st'.sl, e ∈ st.sl ∧ ∀ q ∈ T, e.2.2.has q = false)
    (hhp : ∀ e ∈ st'.hp, (e ∈ st.hp ∧ e.1 ∉ T ∧ e.1 ≠ r0 ∧ ∀ q ∈ T, e.2.2.has q = false) ∨ (Holds a e.2.1 → ConRep w G' e.1 e.2.2)) : SR w0 S0 G' st' a w := by
  have HS : ∀ b, G.S b → G'.S b ∧ w.heap[b]? = w.heap[b]? := fun b hb => ⟨by rw [hS]; exact hb, rfl⟩
  refine ⟨h.below, by rw [hS]; exact h.sub, fun b q hq => ?_, h.df.keep HS rfl, by rw [hn]; exact h.size, fun e he => ?_, fun e he hh => ?_⟩
  · obtain ⟨q', hq'⟩ := hcb b q hq
    rw [hS]
    exact h.colr b q' hq'
  · obtain ⟨h1, h2⟩ := hsl e he
    obtain ⟨g1, g2, g3⟩ := h.sl e h1
    exact ⟨trivial, fun hh => (g2 hh).keep HS fun q hq => hrho q fun hm => (by rw [h2 q hm] at hq; cases hq), g3⟩
  · rcases hhp e he with ⟨h1, h2, h3, h4⟩ | h1
    · exact (h.hp e h1 hh).keep HS (hrho _ h2) (fun q hq => hrho q fun hm => by rw [h4 q hm] at hq; cases hq) (fun b hb => ⟨hcol b e.1 h2 h3 hb, rfl⟩)
    · exact h1 hh
def rhoL (us : List (Nat × Value)) (f : Nat → Value) (n : Nat) : Value := match us with
  | [] => f n
  | u :: r => if u.1 = n then u.2 else rhoL r f n
def colL (us : List (Nat × Value)) (f : Nat → Option Nat) (b : Nat) : Option Nat := match us with
  | [] => f b
  | u :: r => if vblk u.2 = some b then some u.1 else colL r f b
theorem rhoL_mem {f : Nat → Value} : ∀ {us : List (Nat × Value)}, (us.map Prod.fst).Nodup → ∀ u ∈ us, rhoL us f u.1 = u.2
  | x :: r, hn, u, hu => by
    simp only [List.map_cons, List.nodup_cons] at hn
    simp only [rhoL]
    rcases List.mem_cons.1 hu with rfl | hu
    · rw [if_pos rfl]
    · rw [if_neg, rhoL_mem hn.2 u hu]
      intro e
      exact hn.1 (by rw [e]; exact List.mem_map.2 ⟨u, hu, rfl⟩)
theorem rhoL_not {f : Nat → Value} {n : Nat} : ∀ {us : List (Nat × Value)}, n ∉ us.map Prod.fst → rhoL us f n = f n
  | [], _ => rfl
  | x :: r, h => by
    simp only [List.map_cons, List.mem_cons, not_or] at h
    simp only [rhoL]
    rw [if_neg (fun e => h.1 e.symm), rhoL_not h.2]
theorem colL_mem {f : Nat → Option Nat} {b : Nat} : ∀ {us : List (Nat × Value)}, (blksOf us).Nodup → ∀ u ∈ us, vblk u.2 = some b → colL us f b = some u.1
  | x :: r, hn, u, hu, hb => by
    have e : blksOf (x :: r) = (vblk x.2).toList ++ blksOf r := rfl
    rw [e, List.nodup_append] at hn
    simp only [colL]
    rcases List.mem_cons.1 hu with rfl | hu
    · rw [if_pos hb]
    · rw [if_neg, colL_mem hn.2.1 u hu hb]
      intro e
      exact hn.2.2 b (by rw [e]; simp) b (List.mem_flatMap.2 ⟨u, hu, by rw [hb]; simp⟩) rfl
theorem colL_not {f : Nat → Option Nat} {b : Nat} : ∀ {us : List (Nat × Value)}, b ∉ blksOf us → colL us f b = f b
  | [], _ => rfl
  | x :: r, h => by
    have e : blksOf (x :: r) = (vblk x.2).toList ++ blksOf r := rfl
    rw [e, List.mem_append, not_or] at h
    simp only [colL]
    rw [if_neg (fun e => h.1 (by rw [e]; simp)), colL_not h.2]
theorem colL_or {f : Nat → Option Nat} {b q : Nat} : ∀ {us : List (Nat × Value)}, colL us f b = some q → f b = some q ∨ (b ∈ blksOf us ∧ q ∈ us.map Prod.fst)
  | [], h => .inl h
  | x :: r, h => by
    have e : blksOf (x :: r) = (vblk x.2).toList ++ blksOf r := rfl
    simp only [colL] at h
    split at h
    · rename_i hb
      injection h with h
      exact .inr ⟨by rw [e, hb]; simp, by rw [← h]; simp⟩
    · rcases colL_or h with h1 | ⟨h1, h2⟩
      · exact .inl h1
      · exact .inr ⟨by rw [e]; exact List.mem_append_right _ h1, by simp only [List.map_cons, List.mem_cons]; exact .inr h2⟩
def notIn (i : Nat) : List (Nat × Nat × List Cl) → Prop
  | [] => True
  | f :: r => f.2.1 ≠ i ∧ notIn i r
theorem notIn_iff {i : Nat} : ∀ {fs : List (Nat × Nat × List Cl)}, notIn i fs → i ∉ fs.map fun f => f.2.1
  | [], _ => by simp
  | f :: r, h => by
    simp only [List.map_cons, List.mem_cons, not_or]
    exact ⟨fun e => h.1 e.symm, notIn_iff h.2⟩
def St.ownL (st : St) (hp : List (Nat × Con)) : St := { st with hp := hp.map (fun e => (e.1, ([] : Path), e.2)) ++ st.hp }
def elOf : AV → Option (Nat × Nat × Nat × Nat)
  | .v (.c (.el r i sz)) => some (r, i, 0, sz)
  | .v (.c (.elf r i sz off)) => some (r, i, off, sz)
  | _ => none
theorem elOf_rep {x : AV} {r i off sz : Nat} {v : Value} (h : elOf x = some (r, i, off, sz)) (hx : AVRep w G x v) : ∃ g n c, G.rho r = .slice (some ⟨g, 0, none⟩) n c ∧ i < n ∧ v = .pointer (some ⟨g, i * sz + off, none⟩) := by
  unfold elOf at h
  split at h
  · injection h with h; injection h with e1 h; injection h with e2 h; injection h with e3 e4; subst e1 e2 e3 e4
    obtain ⟨g, n, c, h1, h2, h3⟩ := hx
    exact ⟨g, n, c, h1, h2, by rw [h3, Nat.add_zero]⟩
  · injection h with h; injection h with e1 h; injection h with e2 h; injection h with e3 e4; subst e1 e2 e3 e4
    exact hx
  · cases h
def St.openD (st : St) (s q : Nat) (T : List Nat) : Option (Prop × St × List (Nat × Nat)) :=
  match st.get [] s with
  | some x => match elOf x with
    | some (r, i, off, sz) => match lk st.hp r with
      | some ([], .deep e E t l fs) => match explD E t (l.getD i t.d) T with
        | some (cs, hp, []) => if decide (s < st.n) && sz == t.size && nodupB (q :: r :: T) && (q :: T).all (fun z => !(Con.deep e E t l fs).has z) then
            some (notIn i fs, (((st.purgeL (q :: T)).upd r (.deep e E t l (fs ++ [(q, i, cs)]))).ownL hp).put s [] (.v (.c (.ep r q off))), T.map fun z => (z, r)) else none
        | _ => none
      | _ => none
    | none => none
  | none => none
theorem trn_open {s q : Nat} {T : List Nat} {ob : Prop} (h : st.openD s q T = some (ob, st', C)) (hob : ob) : Trn st st' C := by
  intro w0 S0 G a w hs
  unfold St.openD at h
  split at h
  · rename_i x hx
    split at h
    · rename_i r i off sz hel
      split at h
      · rename_i e E t l fs hr
        split at h
        · rename_i cs hp hex
          split at h
          · rename_i hck
            simp only [Bool.and_eq_true, decide_eq_true_eq, beq_iff_eq] at hck
            obtain ⟨⟨⟨hsn, hsz⟩, hnd⟩, hfr⟩ := hck
            injection h with h; injection h with e1 h; injection h with e2 e3; subst e1 e2 e3 hsz
            have hnd' := nodupB_iff hnd
            have hfr' : ∀ z ∈ q :: T, (Con.deep e E t l fs).has z = false := fun z hz => by
              have := List.all_eq_true.1 hfr z hz
              simpa using this
            have hqT : q ∉ T := fun hm => (List.nodup_cons.1 hnd').1 (by simp [hm])
            have hqr : q ≠ r := fun e => (List.nodup_cons.1 hnd').1 (by simp [e])
            have hrT : r ∉ T := (List.nodup_cons.1 (List.nodup_cons.1 hnd').2).1
            have hTn : T.Nodup := (List.nodup_cons.1 (List.nodup_cons.1 hnd').2).2
            obtain ⟨g, n, c, hrho, hin, hv⟩ := elOf_rep hel (hs.get_ holds_nil hx)
            obtain ⟨xss, Bs, ho, hml, hcl, hrow, hfn, hBs, hfs⟩ := hs.hp _ (lk_mem hr) holds_nil
            dsimp only at ho hcl hBs hfs
            obtain ⟨ad, cc, hf1, _⟩ := owns_form ho
            have hnl : n = l.length := by rw [hrho] at hf1; injection hf1
            subst hnl
            have hiF := notIn_iff hob
            obtain ⟨cells, B, hc1, hB1, hden⟩ := hrow.el i _ (getD_some (d := t.d) hin) hiF
            obtain ⟨us, u1, u2, u3, u4⟩ := explD_rep hden hex
            rw [List.append_nil] at u1
            subst u1
            have hcut := flatten_cut_perm hB1
            have hBn : (B ++ (Bs.set i []).flatten).Nodup := hcut.nodup_iff.1 hrow.nodup
            have hbn : (blksOf us).Nodup := by rw [u3]; exact (List.nodup_append.1 hBn).1
            have hBr : ∀ b ∈ B, G.col b = some r := fun b hb => (hBs b (hcut.mem_iff.2 (List.mem_append_left _ hb))).1
            let G' : Ghost := { S := G.S, col := colL us G.col, rho := rhoL ((q, .pointer (some ⟨g, i * t.size, none⟩)) :: us) G.rho }
            have hrn : (((q, Value.pointer (some ⟨g, i * t.size, none⟩)) :: us).map Prod.fst).Nodup := by
              simp only [List.map_cons]
              exact List.nodup_cons.2 ⟨hqT, hTn⟩
            have hrq : G'.rho q = .pointer (some ⟨g, i * t.size, none⟩) := rhoL_mem (f := G.rho) hrn _ List.mem_cons_self
            have hro : ∀ z, z ∉ q :: us.map Prod.fst → G'.rho z = G.rho z := fun z hz => rhoL_not (by simpa using hz)
            have hrr : G'.rho r = G.rho r := hro r (by simp only [List.mem_cons, not_or]; exact ⟨fun e => hqr e.symm, hrT⟩)
            obtain ⟨k1, k2⟩ := u4 G' (fun _ hb => hb) fun u hu => ⟨rhoL_mem (f := G.rho) hrn u (List.mem_cons_of_mem _ hu), fun b hb => colL_mem hbn u hu hb⟩
            have hcolr : ∀ b, b ∉ B → G'.col b = G.col b := fun b hb => colL_not (by rw [u3]; exact hb)
            have hcon : ConRep w G' r (.deep e E t l (fs ++ [(q, i, cs)])) := by
              refine ⟨xss, Bs.set i [], by rw [hrr]; exact ho, hml, fun g' hg' => ?_, ⟨hrow.len, by rw [List.length_set]; exact hrow.blen, hrow.width, fun j x hj hF => ?_, fun j hj => ?_, (List.nodup_append.1 hBn).2.1⟩, ?_, fun b hb => ?_, fun f hf => ?_⟩
              · rw [hrr] at hg'
                rw [hcolr g' fun hm => (hBs g' (hcut.mem_iff.2 (List.mem_append_left _ hm))).2.1 hg']
                exact hcl g' hg'
              · simp only [List.map_append, List.map_cons, List.map_nil, List.mem_append, List.mem_singleton, not_or] at hF
                obtain ⟨cs', B', j1, j2, j3⟩ := hrow.el j x hj hF.1
                exact ⟨cs', B', j1, by rw [List.getElem?_set_ne (fun e => hF.2 e.symm)]; exact j2, j3⟩
              · simp only [List.map_append, List.map_cons, List.map_nil, List.mem_append, List.mem_singleton] at hj
                by_cases hji : i = j
                · subst hji
                  rw [List.getElem?_set_self (by rw [hrow.blen]; exact hin)]
                · rw [List.getElem?_set_ne hji]
                  exact hrow.foc j (hj.resolve_right fun e => hji e.symm)
              · simp only [List.map_append, List.map_cons, List.map_nil]
                rw [List.nodup_append]
                exact ⟨hfn, by simp, fun x hx y hy e => hiF (by rw [← List.mem_singleton.1 hy, ← e]; exact hx)⟩
              · have hb' := hBs b (hcut.mem_iff.2 (List.mem_append_right _ hb))
                rw [hrr, hcolr b fun hm => (List.nodup_append.1 hBn).2.2 b hm b hb rfl]
                exact hb'
              · rcases List.mem_append.1 hf with hf | hf
                · obtain ⟨g2, cs2, j1, j2, j3, j4⟩ := hfs f hf
                  have hno : ∀ z, (f.1 = z ∨ ∃ y ∈ f.2.2, y.has z = true) → z ∉ q :: us.map Prod.fst := fun z hz hm => by
                    have := hfr' z hm
                    simp only [Con.has] at this
                    rw [List.any_eq_false] at this
                    refine this f hf ?_
                    simp only [Bool.or_eq_true, beq_iff_eq, List.any_eq_true]
                    exact hz
                  exact ⟨g2, cs2, by rw [hrr]; exact j1, by rw [hro _ (hno _ (.inl rfl))]; exact j2, j3, All2.imp (fun y hy v hv => ClRep.keep (w := w) (G := G) (fun b hb => ⟨hb, rfl⟩) (fun z hz => hro z (hno z (.inr ⟨y, hy, hz⟩))) hv) j4⟩
                · rw [List.mem_singleton.1 hf]
                  exact ⟨g, cells, by rw [hrr, hrho]; rfl, hrq, hc1, k1⟩
            have hsr := (hs.purgeL (T := q :: us.map Prod.fst)).retag G' (q :: us.map Prod.fst) r rfl hro (fun b z hz => ?_) (fun b z hz1 hz2 hz3 => ?_) (st' := ((st.purgeL (q :: us.map Prod.fst)).upd r (.deep e E t l (fs ++ [(q, i, cs)]))).ownL hp) rfl (fun x hx => ⟨hx, (purgeL_sl hx).2⟩) (fun x hx => ?_)
            · refine ⟨G', ?_, fun b z hz => ?_⟩
              · have h9 := hsr.put (i := s) (p := []) (x := .v (.c (.ep r q off))) (v := a.tmps.getD s undef) (by show s < (st.purgeL _).n; rw [purgeL_n]; exact hsn) rfl (fun _ => ⟨g, i * t.size, hrq, hv⟩) (fun hn => absurd holds_nil hn)
                rw [put_same (by rw [hs.size]; exact hsn)] at h9
                exact h9
              · rcases colL_or hz with h1 | ⟨h1, h2⟩
                · exact .inl h1
                · exact .inr ⟨r, List.mem_map.2 ⟨z, h2, rfl⟩, hBr b (by rw [← u3]; exact h1)⟩
            · rcases colL_or hz with h1 | ⟨h1, h2⟩
              · exact ⟨_, h1⟩
              · exact ⟨r, hBr b (by rw [← u3]; exact h1)⟩
            · rw [hcolr b fun hm => hz2 (by have := hBr b hm; rw [hz3] at this; injection this)]
              exact hz3
            · simp only [St.ownL, List.mem_append, List.mem_map] at hx
              rcases hx with ⟨y, hy, rfl⟩ | hx
              · exact .inr fun _ => k2 y hy
              · simp only [St.upd, List.mem_map] at hx
                obtain ⟨y, hy, rfl⟩ := hx
                by_cases hyr : y.1 = r
                · have e9 : (y.1 == r) = true := by simpa using hyr
                  simp only [e9, if_true]
                  exact .inr fun _ => by rw [hyr]; exact hcon
                · have e9 : (y.1 == r) = false := by simpa using hyr
                  simp only [e9, Bool.false_eq_true, if_false]
                  have h9 := (purgeL_hp hy).2
                  exact .inl ⟨hy, fun hm => (h9 _ hm).1 rfl, hyr, fun z hz => (h9 z hz).2⟩
          · cases h
        · cases h
      · cases h
    · cases h
  · cases h
def St.aimD (st : St) (s q : Nat) : Option (Prop × St × List (Nat × Nat)) :=
  match st.get [] s with
  | some x => match elOf x with
    | some (r, i, off, sz) => match lk st.hp r with
      | some ([], .deep e E t l fs) => match focusOf fs q with
        | some (j, _) => if decide (s < st.n) && sz == t.size then some (i = j, st.put s [] (.v (.c (.ep r q off))), []) else none
        | none => none
      | _ => none
    | none => none
  | none => none
theorem trn_aim {s q : Nat} {ob : Prop} (h : st.aimD s q = some (ob, st', C)) (hob : ob) : Trn st st' C := by
  intro w0 S0 G a w hs
  unfold St.aimD at h
  split at h
  · rename_i x hx
    split at h
    · rename_i r i off sz hel
      split at h
      · rename_i e E t l fs hr
        split at h
        · rename_i j cs hf
          split at h
          · rename_i hck
            simp only [Bool.and_eq_true, decide_eq_true_eq, beq_iff_eq] at hck
            obtain ⟨hsn, hsz⟩ := hck
            injection h with h; injection h with e1 h; injection h with e2 e3; subst e1 e2 e3 hsz
            have hij : i = j := hob
            subst hij
            obtain ⟨g, n, c, hrho, hin, hv⟩ := elOf_rep hel (hs.get_ holds_nil hx)
            obtain ⟨xss, Bs, ho, hml, hcl, hrow, hfn, hBs, hfs⟩ := hs.hp _ (lk_mem hr) holds_nil
            obtain ⟨g2, cs2, j1, j2, _⟩ := hfs _ (focusOf_mem hf)
            dsimp only at j1 j2
            rw [hrho] at j1
            simp only [Value.ownBlock, Option.some.injEq] at j1
            subst j1
            have h9 := hs.put (i := s) (p := []) (x := .v (.c (.ep r q off))) (v := a.tmps.getD s undef) hsn rfl (fun _ => ⟨g, i * t.size, j2, hv⟩) (fun hn => absurd holds_nil hn)
            rw [put_same (by rw [hs.size]; exact hsn)] at h9
            exact ⟨G, h9, fun b z hz => .inl hz⟩
          · cases h
        · cases h
      · cases h
    · cases h
  · cases h
def St.closeD (st : St) (r q : Nat) (same : Bool) : Option (Prop × St × List (Nat × Nat)) :=
  match lk st.hp r with
  | some ([], .deep e E t l fs) => match focusOf fs q with
    | some (i, cs) => match collD st E t cs with
      | some (x, T, []) => if nodupB (r :: T) && (q :: T).all (fun z => !(Con.deep e E t l (fs.filter fun f => !(f.1 == q))).has z) && decide (q ≠ r) then
          some (if same then x = l.getD i t.d else True, (st.purgeL (q :: T)).upd r (.deep e E t (if same then l else l.set i x) (fs.filter fun f => !(f.1 == q))), T.map fun z => (r, z)) else none
      | _ => none
    | none => none
  | _ => none
theorem trn_close {r q : Nat} {same : Bool} {ob : Prop} (h : st.closeD r q same = some (ob, st', C)) (hob : ob) : Trn st st' C := by
  intro w0 S0 G a w hs
  unfold St.closeD at h
  split at h
  · rename_i e E t l fs hr
    split at h
    · rename_i i cs hf
      split at h
      · rename_i x T hcoll
        split at h
        · rename_i hck
          simp only [Bool.and_eq_true, decide_eq_true_eq] at hck
          obtain ⟨⟨hnd, hfr⟩, hqr⟩ := hck
          injection h with h; injection h with e1 h; injection h with e2 e3; subst e1 e2 e3
          have hnd' := nodupB_iff hnd
          have hrT : r ∉ T := (List.nodup_cons.1 hnd').1
          have hTn : T.Nodup := (List.nodup_cons.1 hnd').2
          have hfr' : ∀ z ∈ q :: T, (Con.deep e E t l (fs.filter fun f => !(f.1 == q))).has z = false := fun z hz => by
            have := List.all_eq_true.1 hfr z hz
            simpa using this
          obtain ⟨xss, Bs, ho, hml, hcl, hrow, hfn, hBs, hfs⟩ := hs.hp _ (lk_mem hr) holds_nil
          dsimp only at ho hcl hBs hfs
          have hfm := focusOf_mem hf
          obtain ⟨g, vs, j1, j2, j3, j4⟩ := hfs _ hfm
          dsimp only at j2 j3 j4
          obtain ⟨c, rv, B, rfl, hden, hrv, hBc, hBn⟩ := collD_rep hs hcoll j4
          have hrv0 : rv = [] := by cases rv with
            | nil => rfl
            | cons => exact hrv.elim
          subst hrv0
          rw [List.append_nil] at j3
          have hBn' := hBn hTn
          have hix : i < xss.length := (List.getElem?_eq_some_iff.1 j3).1
          have hi : i < l.length := by rw [← hrow.len]; exact hix
          have hB0 : Bs[i]? = some [] := hrow.foc i (List.mem_map.2 ⟨_, hfm, rfl⟩)
          have hset := flatten_set_perm (B := B) hB0
          have hBnr : ∀ b ∈ B, G.col b ≠ some r := fun b hb e9 => by
            obtain ⟨z, hz, e8⟩ := hBc b hb
            rw [e9] at e8
            injection e8 with e8
            exact hrT (e8 ▸ hz)
          have hl : (if same = true then l else l.set i x) = l.set i x := by
            cases same with
            | false => rfl
            | true =>
              have hxe : x = l.getD i t.d := hob
              rw [if_pos rfl, hxe]
              apply List.ext_getElem?
              intro j
              rw [List.getElem?_set]
              by_cases hj : i = j
              · subst hj
                rw [if_pos rfl, if_pos hi, getD_some (d := t.d) hi]
              · rw [if_neg hj]
          rw [hl]
          let G' : Ghost := { S := G.S, col := fun b => if b ∈ B then some r else G.col b, rho := G.rho }
          have hcolr : ∀ b, b ∉ B → G'.col b = G.col b := fun b hb => if_neg hb
          have hcolB : ∀ b, b ∈ B → G'.col b = some r := fun b hb => if_pos hb
          have hF : ∀ j, j ∈ ((fs.filter fun f => !(f.1 == q)).map fun f => f.2.1) → j ∈ (fs.map fun f => f.2.1) ∧ j ≠ i := by
            intro j hj
            obtain ⟨f, hf2, rfl⟩ := List.mem_map.1 hj
            obtain ⟨hf3, hf4⟩ := List.mem_filter.1 hf2
            refine ⟨List.mem_map.2 ⟨f, hf3, rfl⟩, fun e9 => ?_⟩
            obtain ⟨p1, hp1, ep1⟩ := List.mem_iff_getElem.1 hfm
            obtain ⟨p2, hp2, ep2⟩ := List.mem_iff_getElem.1 hf3
            have h9 := List.pairwise_iff_getElem.1 hfn
            rcases Nat.lt_trichotomy p1 p2 with hlt | heq | hgt
            · have := h9 p1 p2 (by simpa using hp1) (by simpa using hp2) hlt
              simp only [List.getElem_map, ep1, ep2] at this
              exact this e9.symm
            · subst heq
              rw [ep1] at ep2
              rw [← ep2] at hf4
              simp at hf4
            · have := h9 p2 p1 (by simpa using hp2) (by simpa using hp1) hgt
              simp only [List.getElem_map, ep1, ep2] at this
              exact this e9
          have hcon : ConRep w G' r (.deep e E t (l.set i x) (fs.filter fun f => !(f.1 == q))) := by
            refine ⟨xss, Bs.set i B, by rw [List.length_set]; exact ho, by rw [List.length_set]; exact hml, fun g' hg' => ?_, ⟨by rw [List.length_set]; exact hrow.len, by rw [List.length_set, List.length_set]; exact hrow.blen, hrow.width, fun j y hj hjF => ?_, fun j hj => ?_, ?_⟩, ?_, fun b hb => ?_, fun f hf2 => ?_⟩
            · have := hcl g' hg'
              rw [hcolr g' fun hm => hBnr g' hm this]
              exact this
            · by_cases hji : i = j
              · subst hji
                rw [List.getElem?_set_self hi] at hj
                injection hj with hj
                subst hj
                exact ⟨c, B, j3, by rw [List.getElem?_set_self (by rw [hrow.blen]; exact hi)], hden⟩
              · rw [List.getElem?_set_ne hji] at hj
                obtain ⟨cs', B', q1, q2, q3⟩ := hrow.el j y hj fun hm => by
                  obtain ⟨f, hf2, e9⟩ := List.mem_map.1 hm
                  by_cases hfq : f.1 = q
                  · have h9 := hfs f hf2
                    rw [hfq] at h9
                    obtain ⟨g9, _, k1, k2, _⟩ := h9
                    rw [j2] at k2
                    injection k2 with k2; injection k2 with k2; injection k2 with _ k2 _
                    exact hji (by rw [← e9]; exact Nat.eq_of_mul_eq_mul_right t.size_pos k2)
                  · exact hjF (List.mem_map.2 ⟨f, List.mem_filter.2 ⟨hf2, by simpa using hfq⟩, e9⟩)
                exact ⟨cs', B', q1, by rw [List.getElem?_set_ne hji]; exact q2, q3⟩
            · obtain ⟨h9, h8⟩ := hF j hj
              rw [List.getElem?_set_ne (fun e9 => h8 e9.symm)]
              exact hrow.foc j h9
            · rw [hset.nodup_iff, List.nodup_append]
              exact ⟨hBn', hrow.nodup, fun b hb b' hb' e9 => hBnr b hb (by rw [e9]; exact (hBs b' hb').1)⟩
            · exact hfn.sublist (List.filter_sublist.map _)
            · rcases List.mem_append.1 (hset.mem_iff.1 hb) with hb | hb
              · obtain ⟨z, hz, e8⟩ := hBc b hb
                exact ⟨hcolB b hb, fun e9 => hBnr b hb (hcl b e9), (hs.colr b z e8).2.1⟩
              · have := hBs b hb
                exact ⟨by rw [hcolr b fun hm => hBnr b hm this.1]; exact this.1, this.2⟩
            · obtain ⟨hf3, hf4⟩ := List.mem_filter.1 hf2
              obtain ⟨g2, cs2, k1, k2, k3, k4⟩ := hfs f hf3
              exact ⟨g2, cs2, k1, k2, k3, All2.imp (fun y hy v hv => ClRep.keep (w := w) (G := G) (fun b hb => ⟨hb, rfl⟩) (fun z hz => rfl) hv) k4⟩
          refine ⟨G', (hs.purgeL (T := q :: T)).retag G' (q :: T) r rfl (fun _ _ => rfl) (fun b z hz => ?_) (fun b z hz1 hz2 hz3 => ?_) rfl (fun x hx => ⟨hx, (purgeL_sl hx).2⟩) (fun y hy => ?_), fun b z hz => ?_⟩
          · have hz' : (if b ∈ B then some r else G.col b) = some z := hz
            split at hz'
            · rename_i hb
              obtain ⟨z', _, e8⟩ := hBc b hb
              exact ⟨z', e8⟩
            · exact ⟨z, hz'⟩
          · rw [hcolr b fun hm => by
              obtain ⟨z', hz', e8⟩ := hBc b hm
              rw [hz3] at e8
              injection e8 with e8
              exact hz1 (by rw [e8]; exact List.mem_cons_of_mem _ hz')]
            exact hz3
          · simp only [St.upd, List.mem_map] at hy
            obtain ⟨y, hy, rfl⟩ := hy
            by_cases hyr : y.1 = r
            · have e9 : (y.1 == r) = true := by simpa using hyr
              simp only [e9, if_true]
              exact .inr fun _ => by rw [hyr]; exact hcon
            · have e9 : (y.1 == r) = false := by simpa using hyr
              simp only [e9, Bool.false_eq_true, if_false]
              have h9 := (purgeL_hp hy).2
              exact .inl ⟨hy, fun hm => (h9 _ hm).1 rfl, hyr, fun z hz => (h9 z hz).2⟩
          · have hz' : (if b ∈ B then some r else G.col b) = some z := hz
            split at hz'
            · rename_i hb
              injection hz' with hz'
              obtain ⟨z', h1, e8⟩ := hBc b hb
              exact .inr ⟨z', List.mem_map.2 ⟨z', h1, by rw [hz']⟩, e8⟩
            · exact .inl hz'
        · cases h
      · cases h
    · cases h
  · cases h
end
end Dec
